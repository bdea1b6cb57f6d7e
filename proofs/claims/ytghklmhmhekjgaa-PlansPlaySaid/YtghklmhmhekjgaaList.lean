/- What List tells of a table: a new slice of its plans, by rising names. Conditions: at most 1000 plans. -/
import Derived.Test.YtghklmhmhekjgaaAct
import Derived.RangeFuncBox
import Derived.Maps.OwnIn
namespace Go.Proofs.Ytghklmhmhekjgaa
open Go.RowKit Go.Maps Go.Shelf
attribute [local go_sem] Oper.semAt_some

/-- The cells of plans. -/
def pvs (L : List Pl) : List Value := L.flatMap fun p => [.string p.n, .int .i64 p.f, .int .i64 p.t, .int .i64 p.r]
theorem pvs_len (L : List Pl) : (pvs L).length = 4 * L.length := by
  induction L with
  | nil => rfl
  | cons a l ih => unfold pvs at ih ⊢; simp only [List.flatMap_cons, List.length_append, List.length_cons, List.length_nil]; omega
theorem pvs_append (l m : List Pl) : pvs (l ++ m) = pvs l ++ pvs m := by simp [pvs]
theorem pvs_one (l : List Pl) : ∀ u ∈ pvs l, u.oneCell' = true := by
  intro u hu
  simp only [pvs, List.mem_flatMap] at hu
  obtain ⟨p, _, hu⟩ := hu
  simp at hu
  rcases hu with rfl | rfl | rfl | rfl <;> rfl
theorem pvs_succ {L : List Pl} {k : Nat} {p : Pl} (h : L[k]? = some p) : pvs (L.take (k + 1)) = pvs (L.take k) ++ [.string p.n, .int .i64 p.f, .int .i64 p.t, .int .i64 p.r] := by
  rw [List.take_add_one, h, pvs_append]
  rfl
theorem add_addr (g j : Nat) : (⟨g, 0, none⟩ : Addr).add j = ⟨g, j, none⟩ := by unfold Addr.add; split <;> simp_all
theorem news_at {w : World} {g : Nat} {t : TypeId} {cs : Array Value} (h : Arr w g t cs) : ∀ (j : Nat) (u : Value), cs.toList[j]? = some u → w.cell? ((⟨g, 0, none⟩ : Addr).add j) = some u := by
  intro j u hu
  rw [add_addr]
  exact h.at_ (by simpa using hu)

theorem info27 : (Try.prog.info? 27).map (fun i => (i.zero, i.size, i.bytes)) = some (some (.agg #[.string ⟨#[]⟩, .int .i64 0, .int .i64 0, .int .i64 0]), 4, 40) := by kernel_rfl

set_option maxRecDepth 100000 in
set_option maxHeartbeats 4000000 in
theorem append43 (d : Nat) (hd : 9 ≤ d) (Bt T b : Nat) (L : List Pl) (w : World) (hBt : Bt < w.heap.size) (hc : w.cell? ⟨Bt, 0, none⟩ = some (.pointer (some ⟨T, 0, none⟩))) (hT : Tb w T b L) (hL : L.length ≤ 1000) :
    CallsIn Fence.wide d Try.prog 43 #[.slice none 0 0, .func (.func 40) #[] #[.pointer (some ⟨Bt, 0, none⟩)]] w fun e w' => ∃ v, e = .returned v ∧ w'.ownsRow w.heap.size 27 4 v L.length (pvs L) ∧ Below w.heap.size w w' := by
  have hlt := hT.lt
  have h43 : Fence.wide.fn 43 := trivial
  obtain ⟨i0, hi, hz0, hz1, hz2⟩ := info_parts info27
  refine callsIn_of_wp_marks Try.func43 rfl h43 ?_ rfl
  simp only [Try.ntmps43, List.size_toArray, List.length_cons, List.length_nil, Nat.reduceAdd, Nat.reduceSub, Array.replicate_succ, Array.replicate_zero, List.push_toArray, List.append_toArray, List.nil_append, List.cons_append]
  gi_wp2
  obtain ⟨W0, hW0⟩ : ∃ W0, W0 = w.alloc (.cells #[.slice none 0 0] 22) := ⟨_, rfl⟩
  have hsz : W0.heap.size = w.heap.size + 1 := by rw [hW0]; simp
  have hb0 : Below w.heap.size w W0 := by rw [hW0]; exact (Below.refl _ w).alloc (Nat.le_refl _) _
  have hA0 : Boxed W0 w.heap.size 22 (.slice none 0 0) := by rw [hW0]; exact Boxed.new w 22 _
  have hT0 := hT.below hb0 hlt.1 hlt.2
  have hc0 := (hb0.cell (p := ⟨Bt, 0, none⟩) hBt).trans hc
  rw [← hW0]
  clear hW0
  refine wpIn_rangeEach rfl (by omega) 40 #[.pointer (some ⟨Bt, 0, none⟩)] rfl trivial (enters_of Try.func40 (by kernel_rfl) rfl) (fun k => plv (nth L k)) L.length
    (fun x k W => (∃ v, Boxed W w.heap.size 22 v ∧ W.ownsRow w.heap.size 27 4 v k (pvs (L.take k)) ∧ v.ownBlock ≠ some x) ∧ Below w.heap.size w W ∧ W0.heap.size ≤ W.heap.size ∧ W0.heap.size ≤ x ∧ x < W.heap.size)
    (fun k a' W => ∃ Bx, W0.heap.size ≤ Bx ∧ Arr W Bx 27 #[.string (nth L k).n, .int .i64 (nth L k).f, .int .i64 (nth L k).t, .int .i64 (nth L k).r] ∧ a' = { tmps := #[.slice none 0 0, .func (.func 40) #[] #[.pointer (some ⟨Bt, 0, none⟩)], .pointer (some ⟨w.heap.size, 0, none⟩), undef, .slice none 0 0, .pointer (some ⟨Bx, 0, none⟩), .func (.func 40) #[] #[.pointer (some ⟨Bt, 0, none⟩)], plv (nth L k), undef, undef, undef, undef, undef], defers := [] })
    ?hI ?hAx ?h0 ?hiter ?assign ?body ?done
  case hI =>
    rintro x k W r o o' ⟨⟨v, hv, hrow, hvx⟩, hb, hs, hx, hxl⟩ hr ho hoc
    exact ⟨⟨v, hv.kept (grownBy_putObj' W r o') (by intro e; injection e with e; omega), ownsRow_putObj hrow o' ho hoc, hvx⟩, hb.grown (grownBy_putObj' W r o') hb.size (fun x e => by injection e with e; omega), by simpa using hs, hx, by simpa using hxl⟩
  case hAx =>
    rintro k a' W r o o' ⟨Bx, h1, h2, rfl⟩ hr ho hoc
    exact ⟨Bx, h1, h2.putObj ho hoc, rfl⟩
  case h0 =>
    intro x W hb hx hxt
    have hxl := lt_of_cells hxt
    exact ⟨⟨_, (hb.block _ (by omega)).trans hA0, World.ownsRow_nil _ _ _ _, by simp [Value.ownBlock]⟩, hb0.trans (hb.mono hb0.size), hb.size, hx, hxl⟩
  case hiter =>
    refine all1_hands _ (by omega) Bt T b L _ W0 (by omega) hc0 hT0 hL ?_
    rintro x k W ⟨_, hb, _⟩
    exact ⟨(hb.cell (p := ⟨Bt, 0, none⟩) hBt).trans hc, L, hT.below hb hlt.1 hlt.2, fun j p _ hj => List.mem_of_getElem? hj⟩
  case assign =>
    rintro l x k W K hl ⟨⟨v, hv, hrow, hvx⟩, hb, hs, hx, hxl⟩ hk hK
    dsimp only
    unfold plv at hK ⊢
    gi_wp2
    exact hK _ _ ((KeepsOthers.alloc W _).from _) (Below.heap_alloc _ _ _ hxl) ⟨⟨v, hv.alloc _, hrow.alloc _, hvx⟩, hb.alloc hb.size _, by simp; omega, hx, by simp; omega⟩ ⟨W.heap.size, hs, Arr.new W 27 _, rfl⟩
  case body =>
    rintro l x k a' W hl ⟨⟨v, hv, hrow, hvx⟩, hb, hs, hx, hxl⟩ ⟨Bx, hBx, hBA, rfl⟩ hk
    have hp : L[k]? = some (nth L k) := by unfold nth; rw [List.getD_eq_getElem?_getD, List.getElem?_eq_getElem hk]; rfl
    have hps := pvs_succ hp
    obtain ⟨p, hpe⟩ : ∃ p, p = nth L k := ⟨_, rfl⟩
    rw [← hpe] at hBA hps
    clear hpe hp
    obtain ⟨n, hn⟩ : ∃ n, n = p.n := ⟨_, rfl⟩
    obtain ⟨f, hf⟩ : ∃ f, f = p.f := ⟨_, rfl⟩
    obtain ⟨t, ht⟩ : ∃ t, t = p.t := ⟨_, rfl⟩
    obtain ⟨r, hr⟩ : ∃ r, r = p.r := ⟨_, rfl⟩
    rw [← hn, ← hf, ← ht, ← hr] at hBA hps
    have c0 : W.cell? ⟨Bx, 0, none⟩ = some (.string n) := hBA.at_ rfl
    have c1 : W.cell? ⟨Bx, 1, none⟩ = some (.int .i64 f) := hBA.at_ rfl
    have c2 : W.cell? ⟨Bx, 2, none⟩ = some (.int .i64 t) := hBA.at_ rfl
    have c3 : W.cell? ⟨Bx, 3, none⟩ = some (.int .i64 r) := hBA.at_ rfl
    have hcell := hv.cell
    have hfr := hv.frozen
    have HP := Lib.hid hps
    have hk1 : k < 1000 := by omega
    have hw2 : w.heap.size ≤ W.heap.size := hb.size
    have hnew := Arr.new W 27 #[.string n, .int .i64 f, .int .i64 t, .int .i64 r]
    have HNW := Lib.hid hnew
    have hd1 : 1 ≤ d - 1 - 1 := by omega
    clear hps hn hf ht hr hBA hnew
    gi_wp2_with (gi_at_builtin; refine wpListIn_append_own_at _ rfl _ _ 22 rfl w.heap.size 27 i0 _ 4 40 Try.underlying22 hi hz0 hz1 hz2 rfl (by decide) v k _ rfl (hrow.alloc _) ⟨W.heap.size, 0, none⟩ 1 1 [.string n, .int .i64 f, .int .i64 t, .int .i64 r] rfl rfl (news_at HNW.out) (by simp [Value.oneCell']) (by unfold maxLen; omega) (by omega) (by simp; omega) ?_; intro v' w1 hown' hgrow _ hat; obtain ⟨g', cap', rfl⟩ := ownsRow_succ hown'; obtain ⟨hv1, hv2, hr2, hk2, hb2⟩ := hv.appended (by decide) hrow hw2 (Nat.le_refl _) hown' hgrow; have hc1 := hv1.cell; have hf1 := hv1.frozen)
    refine ⟨hk2.from _, (Below.heap_setCell w1 ⟨w.heap.size, 0, none⟩ _ x (by simp; omega)).trans ((hgrow.block x (by simp; omega) (fun e => hvx e.symm)).trans (Below.heap_alloc W _ x hxl)), ⟨⟨_, hv2, by rw [HP.out]; exact hr2, ?_⟩, hb.trans hb2, Nat.le_trans (by omega) hb2.size, by omega, Nat.lt_of_lt_of_le hxl hb2.size⟩⟩
    rcases hat with h | h
    · rw [h]; exact hvx
    · rw [h]; simp; omega
  case done =>
    rintro D x W hD ⟨⟨v, hv, hrow, _⟩, hb, hs, _⟩ hK
    rw [List.take_length] at hrow
    have cv := hv.cell
    have HX := Lib.hid (And.intro hD (And.intro hb (And.intro hs hrow)))
    clear hrow hb
    gi_wp2
    refine ⟨by simp, .inl ⟨_, _, rfl, run_takeDeferred hK, ?_⟩⟩
    have hD := HX.out.1
    exact ⟨_, results_tmp rfl _ _ _, v, rfl, ownsRow_putObj HX.out.2.2.2 _ hK rfl, HX.out.2.1.grown (grownBy_putObj' W _ _) HX.out.2.1.size (fun r e => by injection e with e; omega)⟩

set_option maxHeartbeats 1000000 in
theorem collect27 (d : Nat) (hd : 10 ≤ d) (Bt T b : Nat) (L : List Pl) (w : World) (hBt : Bt < w.heap.size) (hc : w.cell? ⟨Bt, 0, none⟩ = some (.pointer (some ⟨T, 0, none⟩))) (hT : Tb w T b L) (hL : L.length ≤ 1000) :
    CallsIn Fence.wide d Try.prog 27 #[.func (.func 40) #[] #[.pointer (some ⟨Bt, 0, none⟩)]] w fun e w' => ∃ v, e = .returned v ∧ w'.ownsRow w.heap.size 27 4 v L.length (pvs L) ∧ Below w.heap.size w w' := by
  have h27 : Fence.wide.fn 27 := trivial
  have hf : Fence.wide.fn 43 := trivial
  have h1d : 1 ≤ d := by omega
  have hq := append43 (d - 1) (by omega) Bt T b L w hBt hc hT hL
  refine callsIn_of_wp Try.func27 rfl h27 ?_ rfl
  simp only [Try.ntmps27, List.size_toArray, List.length_cons, List.length_nil, Nat.reduceAdd, Nat.reduceSub, Array.replicate_succ, Array.replicate_zero, List.push_toArray, List.append_toArray, List.nil_append, List.cons_append]
  gi_wp2_with (gi_at_call 43; refine hq.mono ?_; rintro e w1 ⟨v, rfl, hrow, hb⟩)
  go_ret
  exact ⟨v, rfl, hrow, hb⟩

set_option maxRecDepth 100000 in
set_option maxHeartbeats 1000000 in
theorem list13 (T b : Nat) (L : List Pl) (w : World) (hT : Tb w T b L) (hL : L.length ≤ 1000) :
    Calls Try.prog 13 #[.pointer (some ⟨T, 0, none⟩)] w fun e w' => ∃ v, e = .returned v ∧ w'.ownsRow w.heap.size 27 4 v L.length (pvs L) ∧ Below w.heap.size w w' := by
  refine (callsIn_wide (n := 12)).1 ?_
  have h13 : Fence.wide.fn 13 := trivial
  have hf : Fence.wide.fn 27 := trivial
  have hf2 : Fence.wide.fn 26 := trivial
  have hb0 : Below w.heap.size w (w.alloc (.cells #[.pointer (some ⟨T, 0, none⟩)] 24)) := (Below.refl _ w).alloc (Nat.le_refl _) _
  have hq := collect27 11 (by omega) w.heap.size T b L (w.alloc (.cells #[.pointer (some ⟨T, 0, none⟩)] 24)) (by simp) ((Arr.new w 24 _).at_ rfl) (hT.below hb0 hT.lt.1 hT.lt.2) hL
  refine callsIn_of_wp Try.func13 rfl h13 ?_ rfl
  simp only [Try.ntmps13, List.size_toArray, List.length_cons, List.length_nil, Nat.reduceAdd, Nat.reduceSub, Array.replicate_succ, Array.replicate_zero, List.push_toArray, List.append_toArray, List.nil_append, List.cons_append]
  gi_wp2_with (first | (gi_at_call 26; refine (all26 _ _ _).mono ?_; rintro e w' ⟨rfl, rfl⟩) | (gi_at_call 27; refine hq.mono ?_; rintro e w1 ⟨v, rfl, hrow, hb⟩))
  go_ret
  exact ⟨v, rfl, own_base hrow (by simp), hb0.trans (hb.mono (by simp))⟩
end Go.Proofs.Ytghklmhmhekjgaa
