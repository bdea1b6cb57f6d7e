/- A slice of samples among a law's arguments, opened: it reads as a list, below the memory's end. No conditions. -/
import Derived.Test.YtnbamngancchmaaOpens
import Derived.Test.YtnbamngancchmaaCols
import Derived.Test.YtnbamngancchmaaValues
import Derived.Deep.SlicePairs
namespace Go.Proofs.Ytnbamngancchmaa
open Go.ChangeShapes Go.WideShapes Go.ChangeAt Go.RowKit Go.Deep PB

theorem Try.cells43 : Try.prog.cellsOf 43 = 2 := by kernel_rfl
theorem snds_in64 {l : List (Int × Int)} (h : ∀ p ∈ l, -9223372036854775808 ≤ p.2 ∧ p.2 ≤ 9223372036854775807) : PV.In64 (snds l) := by
  intro i
  by_cases hi : i < l.length
  · have := h l[i] (List.getElem_mem hi)
    simpa [snds, List.getD, hi] using this
  · simp [snds, List.getD, List.getElem?_eq_none (Nat.le_of_not_lt hi)]
def z64 (v : Value) : Int := match v with | .int _ n => n | _ => 0
set_option maxRecDepth 100000 in
theorem open_rs {H : Type} {enc : TypeId × Value → H} {W : World} {t base : Nat} {v : Value} {d : DataW H} {p : List MemPlace} (ht : Try.prog.underlying t = some (.slice 43))
    (hv : Value.okWide Try.prog W .any base t v) (h : DataW.Trod enc Try.prog W 0 (fun _ => true) true t v d p) (hlt : ∀ x ∈ p, x.block < W.heap.size) :
    ∃ (A : Option Addr) (n c : Nat) (l : List (Int × Int)), v = .slice A n c ∧ Rs2 W W.heap.size A n l ∧ n ≤ c ∧ c ≤ maxLen ∧ PV.In64 (snds l) := by
  obtain ⟨A, n, c, rfl⟩ := okWide_slice ht hv
  obtain ⟨fuel, hf⟩ := h
  rcases open_slice_pairs ht Try.underlying43 Try.cells43 rfl rfl Try.cells3 Try.cells3 hf with ⟨hc, hx⟩ | ⟨a, len, cap, m, k, V0, V1, D0, D1, P0, P1, hc, _, hl, hm, hmm, hx, hall⟩
  · simp [Value.cells] at hc
    obtain ⟨rfl, rfl, rfl⟩ := hc
    exact ⟨none, 0, 0, [], rfl, ⟨rfl, fun h => absurd h (by omega)⟩, Nat.le_refl _, by unfold maxLen; omega, snds_in64 (by simp)⟩
  · simp [Value.cells] at hc
    obtain ⟨rfl, rfl, rfl⟩ := hc
    simp only [if_true] at hmm
    subst hmm
    have hint : ∀ i, i < m → V0 i = .int .i64 (z64 (V0 i)) ∧ V1 i = .int .i64 (z64 (V1 i)) ∧ (Lit.int .i64 (z64 (V1 i))).wf = true := fun i hi => by
      obtain ⟨N0, h1, _, _⟩ := DataW.trod_int Try.underlying3 (hall i hi).2.2.1
      obtain ⟨N1, h3, _, h4⟩ := DataW.trod_int Try.underlying3 (hall i hi).2.2.2
      simp only [List.cons.injEq, and_true] at h1 h3
      rw [h1, h3]
      exact ⟨rfl, rfl, h4⟩
    refine ⟨_, n, m, (List.range n).map fun i => (z64 (V0 i), z64 (V1 i)), rfl, ⟨by simp, fun hn => ?_⟩, hl, hm, snds_in64 ?_⟩
    · obtain ⟨b, off, spot⟩ := a
      have hspot : spot = none := by simpa [Addr.add] using World.cell?_spot (hall 0 (by omega)).1
      subst hspot
      refine ⟨b, off, rfl, ?_, fun j u hu => ?_⟩
      · simp only [Prod.mk.injEq] at hx
        have := hlt (.cell b off) (by rw [hx.2]; exact List.mem_append_left _ (MemPlace.mem_row.2 ⟨0, by omega, rfl⟩))
        exact this
      · have hj := (List.getElem?_eq_some_iff.1 hu).1
        rw [sc_len, List.length_map, List.length_range] at hj
        obtain ⟨i, hi⟩ : ∃ i, j = 2 * i ∨ j = 2 * i + 1 := ⟨j / 2, by omega⟩
        have hin : i < n := by omega
        obtain ⟨s0, s1⟩ := sc_at (l := (List.range n).map fun i => (z64 (V0 i), z64 (V1 i))) (k := i) (by simpa using hin)
        have hg : ((List.range n).map fun i => (z64 (V0 i), z64 (V1 i))).getD i (0, 0) = (z64 (V0 i), z64 (V1 i)) := by simp [List.getD, hin]
        rw [hg] at s0 s1
        obtain ⟨g0, g1, _, _⟩ := hall i (by omega)
        obtain ⟨e0, e1, _⟩ := hint i (by omega)
        rw [e0, Go.WideShapes.add_plain] at g0
        rw [e1, Go.WideShapes.add_plain] at g1
        rcases hi with rfl | rfl
        · rw [s0] at hu
          injection hu with hu
          rw [← hu, Nat.mul_comm 2 i]; exact g0
        · rw [s1] at hu
          injection hu with hu
          rw [← hu, Nat.mul_comm 2 i]; exact g1
    · intro q hq
      simp only [List.mem_map, List.mem_range] at hq
      obtain ⟨i, hi, rfl⟩ := hq
      have h5 := (hint i (by omega)).2.2
      have e1 : IntKind.i64.min = -9223372036854775808 := rfl
      have e2 : IntKind.i64.max = 9223372036854775807 := rfl
      simpa [Lit.wf, e1, e2] using h5
end Go.Proofs.Ytnbamngancchmaa
