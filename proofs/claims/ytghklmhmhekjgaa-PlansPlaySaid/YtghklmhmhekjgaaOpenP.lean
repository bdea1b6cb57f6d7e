/- Plans in a slice that came in: it reads as a list. And: a law's row. No conditions. -/
import Derived.Test.YtghklmhmhekjgaaAlive
import Derived.Test.YtghklmhmhekjgaaRchk
import Derived.ProofKit
import Derived.OpenShut
import Derived.SizedLaws
import Derived.WideShapes
import Derived.Deep.SlicePairs
namespace Go.Proofs.Ytghklmhmhekjgaa
open Go.ChangeShapes Go.WideShapes Go.ChangeAt Go.RowKit Go.Deep

theorem pvs_at {l : List Pl} {k : Nat} {x : Pl} (hk : l[k]? = some x) : (pvs l)[4 * k]? = some (.string x.n) ∧ (pvs l)[4 * k + 1]? = some (.int .i64 x.f) ∧ (pvs l)[4 * k + 2]? = some (.int .i64 x.t) ∧ (pvs l)[4 * k + 3]? = some (.int .i64 x.r) := by
  induction l generalizing k with
  | nil => simp at hk
  | cons a l ih =>
    have e : pvs (a :: l) = .string a.n :: .int .i64 a.f :: .int .i64 a.t :: .int .i64 a.r :: pvs l := rfl
    cases k with
    | zero =>
      simp at hk
      subst hk
      exact ⟨rfl, rfl, rfl, rfl⟩
    | succ k =>
      have := ih (k := k) (by simpa using hk)
      rw [e, show 4 * (k + 1) = 4 * k + 4 by omega, show 4 * k + 4 + 1 = 4 * k + 1 + 4 by omega, show 4 * k + 4 + 2 = 4 * k + 2 + 4 by omega, show 4 * k + 4 + 3 = 4 * k + 3 + 4 by omega]
      simpa [List.getElem?_cons_succ] using this

/-- A slice of plans (nil let in) reads as l, below block B. -/
def Pv (w : World) (B : Nat) (A : Option Addr) (n : Nat) (l : List Pl) : Prop :=
  l.length = n ∧ (0 < n → ∃ b off, A = some ⟨b, off, none⟩ ∧ b < B ∧ ∀ j u, (pvs l)[j]? = some u → w.cell? ⟨b, off + j, none⟩ = some u)
section
variable {w w' : World} {B B' : Nat} {A : Option Addr} {n : Nat} {l : List Pl}
theorem Pv.keep (h : Pv w B A n l) (hk : ∀ x, x < B → w'.heap[x]? = w.heap[x]?) : Pv w' B A n l :=
  ⟨h.1, fun hn => by
    obtain ⟨b, off, e, hb, hc⟩ := h.2 hn
    exact ⟨b, off, e, hb, fun j u hu => (World.cell?_of_block (w := w) (a := ⟨b, off + j, none⟩) (hk b hb)).trans (hc j u hu)⟩⟩
theorem Pv.below (h : Pv w B A n l) (hb : Below B w w') : Pv w' B A n l := h.keep fun x hx => hb.block x hx
theorem Pv.more (h : Pv w B A n l) (hB : B ≤ B') : Pv w B' A n l :=
  ⟨h.1, fun hn => by
    obtain ⟨b, off, e, hb, hc⟩ := h.2 hn
    exact ⟨b, off, e, by omega, hc⟩⟩
theorem Pv.at4 (h : Pv w B A n l) {k : Nat} (hk : k < n) : ∃ b off, A = some ⟨b, off, none⟩ ∧ b < B ∧ ∀ j x, l[j]? = some x → w.cell? ⟨b, off + j * 4, none⟩ = some (.string x.n) ∧ w.cell? ⟨b, off + j * 4 + 1, none⟩ = some (.int .i64 x.f) ∧ w.cell? ⟨b, off + j * 4 + 2, none⟩ = some (.int .i64 x.t) ∧ w.cell? ⟨b, off + j * 4 + 3, none⟩ = some (.int .i64 x.r) := by
  obtain ⟨b, off, e, hb, hc⟩ := h.2 (by omega)
  refine ⟨b, off, e, hb, fun j x hj => ?_⟩
  obtain ⟨h1, h2, h3, h4⟩ := pvs_at hj
  rw [Nat.mul_comm j 4, Nat.add_assoc, Nat.add_assoc, Nat.add_assoc]
  exact ⟨hc _ _ h1, hc _ _ h2, hc _ _ h3, hc _ _ h4⟩
theorem Pv.of_own {base : Nat} {e : TypeId} {v : Value} (h : w.ownsRow base e 4 v n (pvs l)) : ∃ A c, v = .slice A n c ∧ Pv w w.heap.size A n l ∧ n ≤ c ∧ c ≤ maxLen := by
  have hl : l.length = n := by have := h.1; rw [pvs_len] at this; omega
  rcases h.2 with ⟨rfl, rfl⟩ | ⟨g', cap, cur, rfl, hb, hgg, r1, r2, r3, r4⟩
  · exact ⟨none, 0, rfl, ⟨hl, fun h => absurd h (by omega)⟩, Nat.le_refl _, by unfold maxLen; omega⟩
  · refine ⟨_, _, rfl, ⟨hl, fun _ => ⟨g', 0, rfl, (Array.getElem?_eq_some_iff.1 hgg).1, fun j u hu => ?_⟩⟩, r1, r2⟩
    have hh := h.cells (g := g') rfl j u hu
    have e : (⟨g', 0, none⟩ : Addr).add j = ⟨g', 0 + j, none⟩ := by unfold Addr.add; split <;> simp_all
    rwa [e] at hh
end

theorem Try.own : ownKnob Try.prog.godebug = none := by kernel_rfl
theorem Try.laidOut : laidOutB Try.prog = true := by kernel_rfl

section
variable {H : Type} {enc : TypeId × Value → H} {P : Program} {W W' : World}
/-- What came in reads as it did, where nothing that was there has turned. -/
theorem trodAll_below (hl : laidOutB P = true) (hb : Below W.heap.size W W') : ∀ (ts : List TypeId) (vs : List Value) (ds : List (DataW H)) (ps : List MemPlace),
    DataW.TrodAll enc P W 0 (fun _ => true) true ts vs ds ps → (ts.all fun t => P.readableRec t && decide (t < P.types.size)) = true → (∀ x ∈ ps, x.block < W.heap.size) →
    DataW.TrodAll enc P W' 0 (fun b => decide (b < W.heap.size)) true ts vs ds ps
  | [], [], [], _, h, _, _ => h
  | t :: ts, v :: vs, d :: ds, ps, h, hr, hlt => by
    obtain ⟨p, q, h1, h2, rfl⟩ := h
    simp only [List.all_cons, Bool.and_eq_true, decide_eq_true_eq] at hr
    exact ⟨p, q, Below.trod hl hr.1.1 hr.1.2 h1 hb (fun x hx => hlt x (List.mem_append_left _ hx)), trodAll_below hl hb ts vs ds q h2 hr.2 (fun x hx => hlt x (List.mem_append_right _ hx)), rfl⟩
  | [], _ :: _, _, _, h, _, _ => h.elim
  | [], [], _ :: _, _, h, _, _ => h.elim
  | _ :: _, [], _, _, h, _, _ => h.elim
  | _ :: _, _ :: _, [], _, h, _, _ => h.elim
/-- A law's row: it returns true, and nothing that was there has turned. -/
theorem law_post {f : Func} {s : ChangeSpec} {args : Array Value} {ds gs : List (DataW H)} {before : List MemPlace} {tb : TypeId}
    (hl : laidOutB P = true) (hr : (f.params.toList.all fun t => P.readableRec t && decide (t < P.types.size)) = true) (hv : s.vars = []) (ht : f.resultTypes = #[tb]) (hu : P.underlying tb = some .bool)
    (hW : DataW.Whole enc P f.params.toList s.vars false W args.toList ds gs before) (hfn : (s.fn H (ds ++ gs)).results = [.lit (.bool true)] ∧ (s.fn H (ds ++ gs)).args = ds ∧ (s.fn H (ds ++ gs)).vars = [])
    (hb : Below W.heap.size W W') : s.post enc P f false true false false W args (.bool true) W' := by
  have hW0 := hW
  obtain ⟨p, q, hA, hV, rfl, _, _⟩ := hW
  rw [hv] at hV
  obtain ⟨rfl, rfl⟩ := trodVars_none hV
  refine ⟨ds, [], p ++ [], [], p, [], hW0, ?_, ?_, ?_, hb.frame _, fun h => by cases h⟩
  · rw [hfn.1, ht]
    exact trodAll_cons_mk (shut_bool hu true) trodAll_mk0
  · rw [hfn.2.1]
    exact trodAll_below hl hb _ _ _ _ hA hr (fun x hx => hW0.lt x (List.mem_append_left _ hx))
  · rw [hfn.2.2, hv]
    rfl
end

theorem weightsAll_mem {H : Type} {P : Program} {e : TypeId} : ∀ {l : List (DataW H)} {d : DataW H}, d ∈ l → ∀ n ∈ d.weights P e, n ∈ DataW.weightsAll P e l
  | a :: r, d, hd, n, hn => by
    simp only [DataW.weightsAll, List.mem_append]
    rcases List.mem_cons.1 hd with rfl | hd
    · exact .inl hn
    · exact .inr (weightsAll_mem hd n hn)
def zs (v : Value) : ByteArray := match v with | .string s => s | _ => ⟨#[]⟩

instance : Inhabited Pl := ⟨⟨⟨#[]⟩, 0, 0, 0⟩⟩
theorem Try.cells27 : Try.prog.cellsOf 27 = 4 := by kernel_rfl
theorem Try.cells9 : Try.prog.cellsOf 9 = 1 := by kernel_rfl
theorem Try.bytes27 : Try.prog.bytesOf 27 = 40 := by kernel_rfl
theorem Try.cells3 : Try.prog.cellsOf 3 = 1 := by kernel_rfl
/-- How many plans, and how long names, may be read; the numbers are the machine's. -/
def FitP (n : Nat) (l : List Pl) : Prop := n ≤ 1000000000000000 ∧ ∀ x ∈ l, x.n.size ≤ 1000000000000000 ∧ (Lit.int .i64 x.f).wf = true ∧ (Lit.int .i64 x.t).wf = true ∧ (Lit.int .i64 x.r).wf = true
set_option maxRecDepth 100000 in
theorem open_pv {H : Type} {enc : TypeId × Value → H} {W : World} {t base : Nat} {v : Value} {d : DataW H} {p : List MemPlace} (ht : Try.prog.underlying t = some (.slice 27))
    (hv : Value.okWide Try.prog W .any base t v) (h : DataW.Trod enc Try.prog W 0 (fun _ => true) true t v d p) (hlt : ∀ x ∈ p, x.block < W.heap.size) (hw : ∀ n ∈ d.weights Try.prog t, n ≤ reachBytes) :
    ∃ (A : Option Addr) (n c : Nat) (l : List Pl), v = .slice A n c ∧ Pv W W.heap.size A n l ∧ n ≤ c ∧ c ≤ maxLen ∧ FitP n l := by
  obtain ⟨A, n, c, rfl⟩ := okWide_slice ht hv
  obtain ⟨fuel, hf⟩ := h
  have hreach := reachBytes_lt
  have e47 : (2 : Nat) ^ 47 ≤ 1000000000000000 := by decide
  rcases open_slice ht hf with ⟨hc, hx⟩ | ⟨a, len, cap, m, k, D, Pq, hc, _, hl, hm, hmm, hx, hall⟩
  · simp [Value.cells] at hc
    obtain ⟨rfl, rfl, rfl⟩ := hc
    exact ⟨none, 0, 0, [], rfl, ⟨rfl, fun h => absurd h (by omega)⟩, Nat.le_refl _, by unfold maxLen; omega, by omega, by simp⟩
  · simp [Value.cells] at hc
    obtain ⟨rfl, rfl, rfl⟩ := hc
    simp only [if_true] at hmm
    subst hmm
    simp only [Prod.mk.injEq] at hx
    obtain ⟨hx1, hx2⟩ := hx
    have each : ∀ i, i < m → ∃ q : Pl, (W.cell? (a.add (i * 4)) = some (.string q.n) ∧ W.cell? (a.add (i * 4 + 1)) = some (.int .i64 q.f) ∧ W.cell? (a.add (i * 4 + 2)) = some (.int .i64 q.t) ∧ W.cell? (a.add (i * 4 + 3)) = some (.int .i64 q.r)) ∧
        ((Lit.int .i64 q.f).wf = true ∧ (Lit.int .i64 q.t).wf = true ∧ (Lit.int .i64 q.r).wf = true) ∧ ∃ y1 y2 y3, D i = .agg [.lit (.string q.n.data.toList), y1, y2, y3] := by
      intro i hi
      obtain ⟨cs', h1, h2⟩ := hall i hi
      rw [Try.cells27] at h1
      obtain ⟨_, hlen, hcell⟩ := World.cells?_some h1
      obtain ⟨xs, k', hk, hxy, _, hxl, hf'⟩ := DataW.trod_struct Try.underlying27 h2
      match xs, hxl, cs', hlen with
      | [y0, y1, y2, y3], _, [v0, v1, v2, v3], _ =>
        have g0 := hf' 0 _ rfl
        have g1 := hf' 1 _ rfl
        have g2 := hf' 2 _ rfl
        have g3 := hf' 3 _ rfl
        simp [Try.cells3, Try.cells9] at g0 g1 g2 g3
        have c0 := hcell 0 (by omega)
        have c1 := hcell 1 (by omega)
        have c2 := hcell 2 (by omega)
        have c3 := hcell 3 (by omega)
        rw [add_add] at c0 c1 c2 c3
        simp only [Prod.mk.injEq] at hxy
        obtain ⟨N0, r1, q1, _⟩ := DataW.trod_string Try.underlying9 g0
        obtain ⟨N1, r2, _, q2⟩ := DataW.trod_int Try.underlying3 g1
        obtain ⟨N2, r3, _, q3⟩ := DataW.trod_int Try.underlying3 g2
        obtain ⟨N3, r4, _, q4⟩ := DataW.trod_int Try.underlying3 g3
        simp only [List.cons.injEq, and_true] at r1 r2 r3 r4
        subst r1; subst r2; subst r3; subst r4
        refine ⟨⟨N0, N1, N2, N3⟩, ⟨by simpa using c0, by simpa using c1, by simpa using c2, by simpa using c3⟩, ⟨q2, q3, q4⟩, y1.1, y2.1, y3.1, ?_⟩
        rw [hxy.1]
        simp [q1]
    obtain ⟨q, hq⟩ := choose_lt each
    subst hx1
    have hwt : ∀ i, i < n → (q i).n.size ≤ reachBytes := fun i hi => by
      have hmem : ∀ z ∈ (D i).weights Try.prog 27, z ≤ reachBytes := fun z hz => by
        refine hw z ?_
        simp only [DataW.weights, ht]
        refine List.mem_cons_of_mem _ (List.mem_append_left _ (weightsAll_mem ?_ z hz))
        exact List.mem_map.2 ⟨i, List.mem_range.2 hi, rfl⟩
      obtain ⟨_, _, y1, y2, y3, hD⟩ := hq i (by omega)
      rw [hD] at hmem
      refine hmem _ ?_
      simp [DataW.weights, DataW.weightsEach, Try.underlying27]
    have hcap : n ≤ 1000000000000000 := by
      have := hw _ (by simp only [DataW.weights, ht]; exact List.mem_cons_self)
      rw [Try.bytes27] at this
      simp only [List.length_map, List.length_range] at this
      omega
    refine ⟨_, n, m, (List.range n).map q, rfl, ⟨by simp, fun hn => ?_⟩, hl, hm, hcap, ?_⟩
    · obtain ⟨b, off, spot⟩ := a
      have hspot : spot = none := by simpa [Addr.add] using World.cell?_spot (hq 0 (by omega)).1.1
      subst hspot
      refine ⟨b, off, rfl, ?_, fun j u hu => ?_⟩
      · have := hlt (.cell b off) (by rw [hx2, Try.cells27]; exact List.mem_append_left _ (MemPlace.mem_row.2 ⟨0, by omega, rfl⟩))
        exact this
      · have hj := (List.getElem?_eq_some_iff.1 hu).1
        rw [pvs_len, List.length_map, List.length_range] at hj
        obtain ⟨i, hi⟩ : ∃ i, j = 4 * i ∨ j = 4 * i + 1 ∨ j = 4 * i + 2 ∨ j = 4 * i + 3 := ⟨j / 4, by omega⟩
        have hin : i < n := by omega
        obtain ⟨s0, s1, s2, s3⟩ := pvs_at (l := (List.range n).map q) (k := i) (x := q i) (by simp [hin])
        obtain ⟨⟨g0, g1, g2, g3⟩, _⟩ := hq i (by omega)
        rw [Go.WideShapes.add_plain] at g0 g1 g2 g3
        rcases hi with rfl | rfl | rfl | rfl
        · rw [s0] at hu
          injection hu with hu
          rw [← hu, Nat.mul_comm 4 i]; exact g0
        · rw [s1] at hu
          injection hu with hu
          rw [← hu, Nat.mul_comm 4 i]; exact g1
        · rw [s2] at hu
          injection hu with hu
          rw [← hu, Nat.mul_comm 4 i]; exact g2
        · rw [s3] at hu
          injection hu with hu
          rw [← hu, Nat.mul_comm 4 i]; exact g3
    · intro z hz
      simp only [List.mem_map, List.mem_range] at hz
      obtain ⟨i, hi, rfl⟩ := hz
      have := hwt i hi
      exact ⟨by omega, (hq i (by omega)).2.1⟩
end Go.Proofs.Ytghklmhmhekjgaa
