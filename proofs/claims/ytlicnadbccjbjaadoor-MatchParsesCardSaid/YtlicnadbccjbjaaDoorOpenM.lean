/- A slice of matchers, and a text, among a law's arguments, opened. No conditions. -/
import Derived.Test.YtlicnadbccjbjaaDoorMalive
namespace Go.Proofs.YtlicnadbccjbjaaDoor
open Go.ChangeShapes Go.WideShapes Go.ChangeAt Go.RowKit Go.Deep LB

theorem Tryd.cells64 : Tryd.prog.cellsOf 64 = 3 := by kernel_rfl
theorem Tryd.bytes64 : Tryd.prog.bytesOf 64 = 40 := by kernel_rfl
theorem Tryd.cells3 : Tryd.prog.cellsOf 3 = 1 := by kernel_rfl
def FitM (n : Nat) (l : List Mat) : Prop := n ≤ 1000000000000000 ∧ ∀ x ∈ l, x.2.1.size ≤ 1000000000000000 ∧ x.2.2.size ≤ 1000000000000000
set_option maxRecDepth 100000 in
theorem open_mv {H : Type} {enc : TypeId × Value → H} {W : World} {t base : Nat} {v : Value} {d : DataW H} {p : List MemPlace} (ht : Tryd.prog.underlying t = some (.slice 64))
    (hv : Value.okWide Tryd.prog W .any base t v) (h : DataW.Trod enc Tryd.prog W 0 (fun _ => true) true t v d p) (hlt : ∀ x ∈ p, x.block < W.heap.size) (hw : ∀ n ∈ d.weights Tryd.prog t, n ≤ reachBytes) :
    ∃ (A : Option Addr) (n c : Nat) (l : List Mat), v = .slice A n c ∧ Mv W W.heap.size A n l ∧ n ≤ c ∧ c ≤ maxLen ∧ FitM n l := by
  obtain ⟨A, n, c, rfl⟩ := okWide_slice ht hv
  obtain ⟨fuel, hf⟩ := h
  have hreach := reachBytes_lt
  have e47 : (2 : Nat) ^ 47 ≤ 1000000000000000 := by decide
  rcases open_slice ht hf with ⟨hc, hx⟩ | ⟨a, len, cap, m, k, D, Pl, hc, _, hl, hm, hmm, hx, hall⟩
  · simp [Value.cells] at hc
    obtain ⟨rfl, rfl, rfl⟩ := hc
    exact ⟨none, 0, 0, [], rfl, ⟨rfl, fun h => absurd h (by omega)⟩, Nat.le_refl _, by unfold maxLen; omega, by omega, by simp⟩
  · simp [Value.cells] at hc
    obtain ⟨rfl, rfl, rfl⟩ := hc
    simp only [if_true] at hmm
    subst hmm
    simp only [Prod.mk.injEq] at hx
    obtain ⟨hx1, hx2⟩ := hx
    have each : ∀ i, i < m → ∃ q : Mat, W.cell? (a.add (i * 3)) = some (.int .i64 q.1) ∧ W.cell? (a.add (i * 3 + 1)) = some (.string q.2.1) ∧ W.cell? (a.add (i * 3 + 2)) = some (.string q.2.2) ∧
        ∃ y, D i = .agg [y, .lit (.string q.2.1.data.toList), .lit (.string q.2.2.data.toList)] := by
      intro i hi
      obtain ⟨cs', h1, h2⟩ := hall i hi
      rw [Tryd.cells64] at h1
      obtain ⟨_, hlen, hcell⟩ := World.cells?_some h1
      obtain ⟨xs, k', hk, hxy, _, hxl, hf'⟩ := DataW.trod_struct Tryd.underlying64 h2
      match xs, hxl, cs', hlen with
      | [y0, y1, y2], _, [v0, v1, v2], _ =>
        have g0 := hf' 0 _ rfl
        have g1 := hf' 1 _ rfl
        have g2 := hf' 2 _ rfl
        simp [Tryd.cells3, Tryd.cells9] at g0 g1 g2
        have c0 := hcell 0 (by omega)
        have c1 := hcell 1 (by omega)
        have c2 := hcell 2 (by omega)
        rw [add_add] at c0 c1 c2
        simp only [Prod.mk.injEq] at hxy
        obtain ⟨N0, r1, _, _⟩ := DataW.trod_int Tryd.underlying3 g0
        obtain ⟨N1, r3, r4, _⟩ := DataW.trod_string Tryd.underlying9 g1
        obtain ⟨N2, r5, r6, _⟩ := DataW.trod_string Tryd.underlying9 g2
        simp only [List.cons.injEq, and_true] at r1 r3 r5
        subst r1; subst r3; subst r5
        refine ⟨(N0, N1, N2), by simpa using c0, by simpa using c1, by simpa using c2, y0.1, ?_⟩
        rw [hxy.1]
        simp [r4, r6]
    obtain ⟨q, hq⟩ := choose_lt each
    subst hx1
    have hwt : ∀ i, i < n → (q i).2.1.size ≤ reachBytes ∧ (q i).2.2.size ≤ reachBytes := fun i hi => by
      have hmem : ∀ z ∈ (D i).weights Tryd.prog 64, z ≤ reachBytes := fun z hz => by
        refine hw z ?_
        simp only [DataW.weights, ht]
        refine List.mem_cons_of_mem _ (List.mem_append_left _ (weightsAll_mem ?_ z hz))
        exact List.mem_map.2 ⟨i, List.mem_range.2 hi, rfl⟩
      obtain ⟨_, _, _, y, hD⟩ := hq i (by omega)
      rw [hD] at hmem
      refine ⟨hmem _ ?_, hmem _ ?_⟩
      all_goals simp [DataW.weights, DataW.weightsEach, Tryd.underlying64]
    have hcap : n ≤ 1000000000000000 := by
      have := hw _ (by simp only [DataW.weights, ht]; exact List.mem_cons_self)
      rw [Tryd.bytes64] at this
      simp only [List.length_map, List.length_range] at this
      omega
    refine ⟨_, n, m, (List.range n).map q, rfl, ⟨by simp, fun hn => ?_⟩, hl, hm, hcap, ?_⟩
    · obtain ⟨b, off, spot⟩ := a
      have hspot : spot = none := by simpa [Addr.add] using World.cell?_spot (hq 0 (by omega)).1
      subst hspot
      refine ⟨b, off, rfl, ?_, fun j u hu => ?_⟩
      · have := hlt (.cell b off) (by rw [hx2, Tryd.cells64]; exact List.mem_append_left _ (MemPlace.mem_row.2 ⟨0, by omega, rfl⟩))
        exact this
      · have hj := (List.getElem?_eq_some_iff.1 hu).1
        rw [mv_len, List.length_map, List.length_range] at hj
        obtain ⟨i, hi⟩ : ∃ i, j = 3 * i ∨ j = 3 * i + 1 ∨ j = 3 * i + 2 := ⟨j / 3, by omega⟩
        have hin : i < n := by omega
        obtain ⟨s0, s1, s2⟩ := mv_at (l := (List.range n).map q) (k := i) (x := q i) (by simp [hin])
        obtain ⟨g0, g1, g2, _⟩ := hq i (by omega)
        rw [Go.WideShapes.add_plain] at g0 g1 g2
        rcases hi with rfl | rfl | rfl
        · rw [s0] at hu
          injection hu with hu
          rw [← hu, Nat.mul_comm 3 i]; exact g0
        · rw [s1] at hu
          injection hu with hu
          rw [← hu, Nat.mul_comm 3 i]; exact g1
        · rw [s2] at hu
          injection hu with hu
          rw [← hu, Nat.mul_comm 3 i]; exact g2
    · intro z hz
      simp only [List.mem_map, List.mem_range] at hz
      obtain ⟨i, hi, rfl⟩ := hz
      have := hwt i hi
      omega
end Go.Proofs.YtlicnadbccjbjaaDoor
