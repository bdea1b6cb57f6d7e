/- A slice of labels among a law's arguments, opened: it reads as a list, below the memory's end, and all of it within the form's reach. And: a law's row. No conditions. -/
import Derived.Test.YtlicnadbccjbjaaDoorRMake
import Derived.ProofKit
import Derived.OpenShut
import Derived.SizedLaws
import Derived.WideShapes
import Derived.Deep.SlicePairs
namespace Go.Proofs.YtlicnadbccjbjaaDoor
open Go.ChangeShapes Go.WideShapes Go.ChangeAt Go.RowKit Go.Deep LB

theorem Tryd.own : ownKnob Tryd.prog.godebug = none := by kernel_rfl
theorem Tryd.laidOut : laidOutB Tryd.prog = true := by kernel_rfl
theorem Tryd.cells37 : Tryd.prog.cellsOf 37 = 2 := by kernel_rfl
theorem Tryd.cells9 : Tryd.prog.cellsOf 9 = 1 := by kernel_rfl
theorem Tryd.bytes37 : Tryd.prog.bytesOf 37 = 32 := by kernel_rfl

section
variable {H : Type} {enc : TypeId × Value → H} {P : Program} {W W' : World}
/-- What came in reads as it did, where nothing that was there has turned. -/
theorem trodAll_below (hl : laidOutB P = true) (hb : Below W.heap.size W W') : ∀ (ts : List TypeId) (vs : List Value) (ds : List (DataW H)) (ps : List MemPlace),
    DataW.TrodAll enc P W 0 (fun _ => true) true ts vs ds ps → (ts.all fun t => P.readableRec t && decide (t < P.types.size)) = true → (∀ x ∈ ps, x.block < W.heap.size) →
    DataW.TrodAll enc P W' 0 (fun b => decide (b < W.heap.size)) true ts vs ds ps
  | [], [], [], _, h, _, _ => h
  | t :: ts, v :: vs, d :: ds, ps, h, hr, hlt => by
    obtain ⟨p, q, h1, h2, rfl⟩ := h
    simp only [List.all_cons, Bool.and_eq_true, decide_eq_true_eq] at hr
    exact ⟨p, q, Below.trod hl hr.1.1 hr.1.2 h1 hb (fun x hx => hlt x (List.mem_append_left _ hx)), trodAll_below hl hb ts vs ds q h2 hr.2 (fun x hx => hlt x (List.mem_append_right _ hx)), rfl⟩
  | [], _ :: _, _, _, h, _, _ => h.elim
  | [], [], _ :: _, _, h, _, _ => h.elim
  | _ :: _, [], _, _, h, _, _ => h.elim
  | _ :: _, _ :: _, [], _, h, _, _ => h.elim
/-- A law's row: it returns true, and nothing that was there has turned. -/
theorem law_post {f : Func} {s : ChangeSpec} {args : Array Value} {ds gs : List (DataW H)} {before : List MemPlace} {tb : TypeId}
    (hl : laidOutB P = true) (hr : (f.params.toList.all fun t => P.readableRec t && decide (t < P.types.size)) = true) (hv : s.vars = []) (ht : f.resultTypes = #[tb]) (hu : P.underlying tb = some .bool)
    (hW : DataW.Whole enc P f.params.toList s.vars false W args.toList ds gs before) (hfn : (s.fn H (ds ++ gs)).results = [.lit (.bool true)] ∧ (s.fn H (ds ++ gs)).args = ds ∧ (s.fn H (ds ++ gs)).vars = [])
    (hb : Below W.heap.size W W') : s.post enc P f false true false false W args (.bool true) W' := by
  have hW0 := hW
  obtain ⟨p, q, hA, hV, rfl, _, _⟩ := hW
  rw [hv] at hV
  obtain ⟨rfl, rfl⟩ := trodVars_none hV
  refine ⟨ds, [], p ++ [], [], p, [], hW0, ?_, ?_, ?_, hb.frame _, fun h => by cases h⟩
  · rw [hfn.1, ht]
    exact trodAll_cons_mk (shut_bool hu true) trodAll_mk0
  · rw [hfn.2.1]
    exact trodAll_below hl hb _ _ _ _ hA hr (fun x hx => hW0.lt x (List.mem_append_left _ hx))
  · rw [hfn.2.2, hv]
    rfl
end

theorem weightsAll_mem {H : Type} {P : Program} {e : TypeId} : ∀ {l : List (DataW H)} {d : DataW H}, d ∈ l → ∀ n ∈ d.weights P e, n ∈ DataW.weightsAll P e l
  | a :: r, d, hd, n, hn => by
    simp only [DataW.weightsAll, List.mem_append]
    rcases List.mem_cons.1 hd with rfl | hd
    · exact .inl hn
    · exact .inr (weightsAll_mem hd n hn)
def zs (v : Value) : ByteArray := match v with | .string s => s | _ => ⟨#[]⟩
/-- How many labels, and how long, may be read. -/
def Fit (n : Nat) (l : List Lab) : Prop := n ≤ 1000000000000000 ∧ ∀ x ∈ l, x.1.size ≤ 1000000000000000 ∧ x.2.size ≤ 1000000000000000
set_option maxRecDepth 100000 in
theorem open_lv {H : Type} {enc : TypeId × Value → H} {W : World} {t base : Nat} {v : Value} {d : DataW H} {p : List MemPlace} (ht : Tryd.prog.underlying t = some (.slice 37))
    (hv : Value.okWide Tryd.prog W .any base t v) (h : DataW.Trod enc Tryd.prog W 0 (fun _ => true) true t v d p) (hlt : ∀ x ∈ p, x.block < W.heap.size) (hw : ∀ n ∈ d.weights Tryd.prog t, n ≤ reachBytes) :
    ∃ (A : Option Addr) (n c : Nat) (l : List Lab), v = .slice A n c ∧ Lv W W.heap.size A n l ∧ n ≤ c ∧ c ≤ maxLen ∧ Fit n l := by
  obtain ⟨A, n, c, rfl⟩ := okWide_slice ht hv
  obtain ⟨fuel, hf⟩ := h
  have hreach := reachBytes_lt
  rcases open_slice_pairs ht Tryd.underlying37 Tryd.cells37 rfl rfl Tryd.cells9 Tryd.cells9 hf with ⟨hc, hx⟩ | ⟨a, len, cap, m, k, V0, V1, D0, D1, P0, P1, hc, _, hl, hm, hmm, hx, hall⟩
  · simp [Value.cells] at hc
    obtain ⟨rfl, rfl, rfl⟩ := hc
    exact ⟨none, 0, 0, [], rfl, ⟨rfl, fun h => absurd h (by omega)⟩, Nat.le_refl _, by unfold maxLen; omega, by omega, by simp⟩
  · simp [Value.cells] at hc
    obtain ⟨rfl, rfl, rfl⟩ := hc
    simp only [if_true] at hmm
    subst hmm
    simp only [Prod.mk.injEq] at hx
    obtain ⟨hx1, hx2⟩ := hx
    have hstr : ∀ i, i < m → V0 i = .string (zs (V0 i)) ∧ V1 i = .string (zs (V1 i)) ∧ D0 i = .lit (.string (zs (V0 i)).data.toList) ∧ D1 i = .lit (.string (zs (V1 i)).data.toList) := fun i hi => by
      obtain ⟨N0, h1, h2, _⟩ := DataW.trod_string Tryd.underlying9 (hall i hi).2.2.1
      obtain ⟨N1, h3, h4, _⟩ := DataW.trod_string Tryd.underlying9 (hall i hi).2.2.2
      simp only [List.cons.injEq, and_true] at h1 h3
      simp only [Prod.mk.injEq] at h2 h4
      rw [h1, h3]
      exact ⟨rfl, rfl, h2.1, h4.1⟩
    subst hx1
    have hwt : ∀ i, i < n → (zs (V0 i)).size ≤ reachBytes ∧ (zs (V1 i)).size ≤ reachBytes := fun i hi => by
      have hmem : ∀ q ∈ (DataW.agg [D0 i, D1 i]).weights Tryd.prog 37, q ≤ reachBytes := fun q hq => by
        refine hw q ?_
        simp only [DataW.weights, ht]
        refine List.mem_cons_of_mem _ (List.mem_append_left _ (weightsAll_mem ?_ q hq))
        exact List.mem_map.2 ⟨i, List.mem_range.2 hi, rfl⟩
      obtain ⟨_, _, g0, g1⟩ := hstr i (by omega)
      rw [g0, g1] at hmem
      refine ⟨hmem _ ?_, hmem _ ?_⟩
      all_goals simp [DataW.weights, DataW.weightsEach, Tryd.underlying37]
    have hcap : n ≤ 1000000000000000 := by
      have := hw _ (by simp only [DataW.weights, ht]; exact List.mem_cons_self)
      rw [Tryd.bytes37] at this
      simp only [List.length_map, List.length_range] at this
      omega
    refine ⟨_, n, m, (List.range n).map fun i => (zs (V0 i), zs (V1 i)), rfl, ⟨by simp, fun hn => ?_⟩, hl, hm, hcap, ?_⟩
    · obtain ⟨b, off, spot⟩ := a
      have hspot : spot = none := by simpa [Addr.add] using World.cell?_spot (hall 0 (by omega)).1
      subst hspot
      refine ⟨b, off, rfl, ?_, fun j u hu => ?_⟩
      · have := hlt (.cell b off) (by rw [hx2]; exact List.mem_append_left _ (MemPlace.mem_row.2 ⟨0, by omega, rfl⟩))
        exact this
      · have hj := (List.getElem?_eq_some_iff.1 hu).1
        rw [lv_len, List.length_map, List.length_range] at hj
        obtain ⟨i, hi⟩ : ∃ i, j = 2 * i ∨ j = 2 * i + 1 := ⟨j / 2, by omega⟩
        have hin : i < n := by omega
        obtain ⟨s0, s1⟩ := lv_at (l := (List.range n).map fun i => (zs (V0 i), zs (V1 i))) (k := i) (x := (zs (V0 i), zs (V1 i))) (by simp [hin])
        obtain ⟨g0, g1, _, _⟩ := hall i (by omega)
        obtain ⟨e0, e1, _⟩ := hstr i (by omega)
        rw [e0, Go.WideShapes.add_plain] at g0
        rw [e1, Go.WideShapes.add_plain] at g1
        rcases hi with rfl | rfl
        · rw [s0] at hu
          injection hu with hu
          rw [← hu, Nat.mul_comm 2 i]; exact g0
        · rw [s1] at hu
          injection hu with hu
          rw [← hu, Nat.mul_comm 2 i]; exact g1
    · intro q hq
      simp only [List.mem_map, List.mem_range] at hq
      obtain ⟨i, hi, rfl⟩ := hq
      have := hwt i hi
      have e : (2 : Nat) ^ 47 ≤ 1000000000000000 := by decide
      show (zs (V0 i)).size ≤ _ ∧ (zs (V1 i)).size ≤ _
      omega
end Go.Proofs.YtlicnadbccjbjaaDoor
