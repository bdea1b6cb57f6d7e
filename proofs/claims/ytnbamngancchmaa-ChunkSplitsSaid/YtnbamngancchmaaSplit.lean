/- What chunk.Split answers: the pieces of a list of samples, each in memory of its own. Conditions: at most 10^6 samples. -/
import Derived.Test.YtnbamngancchmaaRall
import Derived.Test.YtnbamngancchmaaPieces
import Derived.Test.YtnbamngancchmaaRowsL
namespace Go.Proofs.Ytnbamngancchmaa
open Go.RowKit Go.Shelf PB
attribute [local go_sem] Oper.semAt_some

theorem rs2_piece {w : World} {B b off n : Nat} {l : List (Int × Int)} (h : Rs2 w B (some ⟨b, off, none⟩) n l) (k : Nat) (hk : 120 * k < n) : Rs2 w B (some ⟨b, off + 240 * k, none⟩) (min (n - 120 * k) 120) (pc l k) := by
  refine ⟨by rw [pc_len, h.1], fun _ => ?_⟩
  obtain ⟨b', off', e, hb, hc⟩ := h.2 (by omega)
  injection e with e
  injection e with e1 e2
  subst e1 e2
  refine ⟨b, _, rfl, hb, fun j u hu => ?_⟩
  have hu2 : (sc ((l.drop (120 * k)).take 120))[j]? = some u := hu
  have h1 : (sc (l.drop (120 * k)))[j]? = some u := by
    have e : sc (l.drop (120 * k)) = sc ((l.drop (120 * k)).take 120) ++ sc ((l.drop (120 * k)).drop 120) := by rw [← sc_append, List.take_append_drop]
    rw [e, List.getElem?_append_left (List.getElem?_eq_some_iff.1 hu2).1]
    exact hu2
  have h2 : (sc l)[240 * k + j]? = some u := by
    have e : sc l = sc (l.take (120 * k)) ++ sc (l.drop (120 * k)) := by rw [← sc_append, List.take_append_drop]
    have hl : (sc (l.take (120 * k))).length = 240 * k := by
      rw [sc_len, List.length_take, h.1, Nat.min_eq_left (by omega)]; omega
    rw [e, List.getElem?_append_right (by omega), hl, Nat.add_sub_cancel_left]
    exact h1
  rw [Nat.add_assoc]
  exact hc _ _ h2
theorem np_lt {n k : Nat} (h : k < np n) : 120 * k < n := by unfold np at h; omega

/-- The append in a region that draws, in a fence, its run being known. -/
theorem operIn_append {F : Fence} {n : Nat} {P : Program} {ops : Array Oper} {o : Oper} {a : Act} {w w' : World} {Q : Exit → Act → World → Prop} {K : Act → World → Prop} (hgd : o.guard = none) (s x : Operand) (t : TypeId)
    (ho : o.op = .call { callee := .builtin .append, args := #[s, x], argTypes := #[t, t] }) (v y : Value) {v' : Value} (hs : a.eval s = v) (hx : a.eval x = y) (hrun : (Builtin.append_ #[t, t] o.type #[v, y]).run P w = .ok v' w') (h : K (a.put o.dst v') w') :
    if Region.wanted o (yielded ops a.tmps) = true then Oper.wpIn F n P o a w K Q else (∀ f, o.about P w a.eval = some f → F.fn f) ∧ K (a.put o.dst undef) w := by
  rw [if_pos (by simp [Region.wanted, hgd])]
  unfold Oper.wpIn
  refine ⟨by simp [Oper.about, ho, resolve, Target.leads, Sem.run_pure], ?_⟩
  rw [Oper.semAt_plain F _ _ (by rw [ho]; intro c hc'; cases hc')]
  simp [execOp, ho, resolve, invoke, builtin, hs, hx, hrun, Result.andThen]
  exact h

/-- One round: the row that was made is appended to the slice in the box. -/
theorem split_step {W W1 : World} {Bo Bn n0 base m k : Nat} {v : Value} {r cap : Nat} {vs : List Value} {P : Nat → List (Int × Int)} (hv : Boxed W Bo 39 v) (h0 : n0 ≤ Bo) (hBo : Bo < base) (hBn : Bn < base) (hne : Bn ≠ Bo) (hrow : RwV W base v k vs P) (hbase : base ≤ W.heap.size)
    (hb : Below W.heap.size W W1) (hm : (P k).length = m) (hu : W1.ownsRow W.heap.size 43 2 (.slice (some ⟨r, 0, none⟩) m cap) m (sc (P k))) (hk : k ≤ 100000) :
    ∃ g c w3, (Builtin.append_ #[39, 39] 39 #[v, .slice (some ⟨W1.heap.size, 0, none⟩) 1 1]).run Try.prog (W1.alloc (.cells #[.slice (some ⟨r, 0, none⟩) m cap] 38)) = .ok (.slice (some ⟨g, 0, none⟩) (k + 1) c) w3 ∧ Boxed w3 Bo 39 v ∧
      Boxed (w3.setCell ⟨Bo, 0, none⟩ (.slice (some ⟨g, 0, none⟩) (k + 1) c)) Bo 39 (.slice (some ⟨g, 0, none⟩) (k + 1) c) ∧
      RwV (w3.setCell ⟨Bo, 0, none⟩ (.slice (some ⟨g, 0, none⟩) (k + 1) c)) base (.slice (some ⟨g, 0, none⟩) (k + 1) c) (k + 1) (vs ++ [.slice (some ⟨r, 0, none⟩) m cap]) P ∧
      KeepsOthers W (w3.setCell ⟨Bo, 0, none⟩ (.slice (some ⟨g, 0, none⟩) (k + 1) c)) ∧ Below n0 W (w3.setCell ⟨Bo, 0, none⟩ (.slice (some ⟨g, 0, none⟩) (k + 1) c)) ∧
      (w3.setCell ⟨Bo, 0, none⟩ (.slice (some ⟨g, 0, none⟩) (k + 1) c)).heap[Bn]? = W.heap[Bn]? := by
  subst hm
  obtain ⟨i0, hi, hz0, hz1, hz2⟩ := info_parts Try.info38
  have hsz := hb.size
  obtain ⟨v', w3, hrun, hown, hg, _, _⟩ := run_append_own_at (P := Try.prog) (w := W1.alloc (.cells #[.slice (some ⟨r, 0, none⟩) (P k).length cap] 38)) base 39 39 38 i0 (.slice none 0 0) 1 24 Try.underlying39 hi hz0 hz1 hz2 rfl (by decide) v k vs ((hrow.below hb).out.alloc _) ⟨W1.heap.size, 0, none⟩ 1 1 [.slice (some ⟨r, 0, none⟩) (P k).length cap] rfl (cell_one_new _ _ _) (by simp [Value.oneCell']) (by unfold maxLen; omega) (by omega) (by simp; omega)
  obtain ⟨g, c, rfl⟩ := ownsRow_succ hown
  obtain ⟨h1, h2⟩ := hrow.push hbase hb hu hown hg
  have hvb : ∀ x, v.ownBlock = some x → base ≤ x := fun x hx => (hrow.out.lt x hx).1
  have hv3 : Boxed w3 Bo 39 v := (h2.block Bo hBo).trans hv
  have hkp : Kp (fun x => x = Bo) w3 (w3.setCell ⟨Bo, 0, none⟩ (.slice (some ⟨g, 0, none⟩) (k + 1) c)) := (Kp.refl (fun x => x = Bo) w3).setCell (p := ⟨Bo, 0, none⟩) (.inl rfl) _
  refine ⟨g, c, w3, hrun, hv3, hv3.set _, h1.kp hkp (by rintro x hx _ _ _ _ _ rfl; omega), ?_, (h2.mono (by omega)).setCell (p := ⟨Bo, 0, none⟩) h0 _, ?_⟩
  · have ho : KeepsOthers W1 w3 := (KeepsOthers.alloc W1 _).trans (KeepsOthers.of_grownBy hg fun j o ej hj => by
      rcases ((hrow.below hb).out.alloc (.cells #[.slice (some ⟨r, 0, none⟩) (P k).length cap] 38)).2 with ⟨rfl, _⟩ | ⟨g', cap', cur, rfl, _, hgb, _⟩
      · simp [Value.ownBlock] at ej
      · obtain rfl : g' = j := by simpa [Value.ownBlock] using ej
        rw [hgb] at hj; cases hj; rfl)
    have ho1 : KeepsOthers W W1 := ⟨hb.size, fun x o hx _ => (hb.block x (Array.getElem?_eq_some_iff.1 hx).1).trans hx⟩
    exact (ho1.trans ho).trans (KeepsOthers.setCell _ _ _)
  · exact (Below.heap_setCell w3 ⟨Bo, 0, none⟩ _ Bn hne).trans (h2.block Bn hBn)

set_option maxRecDepth 100000 in
set_option maxHeartbeats 2000000 in
theorem split_any (A : Option Addr) (n c B : Nat) (l : List (Int × Int)) (w : World) (hr : Rs2 w B A n l) (hB : B ≤ w.heap.size) (hn : n ≤ 1000000) (hc : n ≤ c) (hc2 : c ≤ maxLen) :
    Calls Try.prog 26 #[.slice A n c] w fun e w' => ∃ v vs, e = .returned v ∧ RwV w' w.heap.size v (np n) vs (pc l) ∧ Below w.heap.size w w' := by
  obtain ⟨b, off, hA⟩ : ∃ b off, 0 < n → A = some ⟨b, off, none⟩ := by
    rcases Nat.eq_zero_or_pos n with h0 | h0
    · exact ⟨0, 0, fun h => by omega⟩
    · obtain ⟨b, off, e, _⟩ := hr.2 h0
      exact ⟨b, off, fun _ => e⟩
  obtain ⟨i0, hi, hz0, hz1, hz2⟩ := info_parts Try.info38
  refine (callsIn_wide (n := 4)).1 ?_
  refine callsIn_of_wp_marks Try.func26 rfl trivial ?_ rfl
  simp only [Try.ntmps26, List.size_toArray, List.length_cons, List.length_nil, Nat.reduceAdd, Nat.reduceSub, Array.replicate_succ, Array.replicate_zero, List.push_toArray, List.append_toArray, List.nil_append, List.cons_append]
  gi_wp2_with (refine ⟨trivial, ?_⟩; gi_at_call 54; refine (pieces_in Fence.wide _ trivial rfl A n c _).mono ?_; rintro e w' ⟨rfl, rfl⟩)
  obtain ⟨W0, hW0⟩ : ∃ W0, W0 = (w.alloc (.cells #[.slice none 0 0] 39)).alloc (.cells #[.slice A n c] 38) := ⟨_, rfl⟩
  have hbx : Boxed W0 w.heap.size 39 (.slice none 0 0) := by rw [hW0]; exact (Boxed.new w 39 _).alloc _
  have hbn : Boxed W0 (w.heap.size + 1) 38 (.slice A n c) := by
    rw [hW0]; have := Boxed.new (w.alloc (.cells #[.slice none 0 0] 39)) 38 (.slice A n c); rwa [World.size_alloc] at this
  have hs0 : W0.heap.size = w.heap.size + 2 := by rw [hW0]; simp
  have hb0 : Below w.heap.size w W0 := by rw [hW0]; exact ((Below.refl _ w).alloc (Nat.le_refl _) _).alloc (by simp) _
  rw [← hW0]
  have HW0 := Lib.hid hW0
  clear hW0
  refine wpIn_rangeAll rfl (by omega) 72 #[.pointer (some ⟨w.heap.size + 1, 0, none⟩)] rfl trivial (enters_of Try.func72 (by kernel_rfl) rfl) (pv b off n) (np n) (w.heap.size + 1) (by omega)
    (fun k W => (∃ v vs, Boxed W w.heap.size 39 v ∧ RwV W (w.heap.size + 2) v k vs (pc l)) ∧ Below w.heap.size w W ∧ w.heap.size + 2 ≤ W.heap.size)
    (fun k => { tmps := #[.slice A n c, undef, .slice none 0 0, .pointer (some ⟨w.heap.size, 0, none⟩), pv b off n k, .slice A n c, .func (.func 72) #[] #[.pointer (some ⟨w.heap.size + 1, 0, none⟩)], pv b off n k, undef, undef, undef, undef, undef, undef], defers := [] })
    ?hI ?hIS ?h0 ?hiter ?assign ?body ?done
  case hI =>
    rintro k W r o o' ⟨⟨v, vs, hv, hrow⟩, hb, hs⟩ hr2 ho hoc
    have hkp : Kp (fun x => x = r) W (W.putObj r o') := (Kp.refl _ W).grown (grownBy_putObj' W r o') (fun x _ e => by injection e with e; exact e.symm)
    refine ⟨⟨v, vs, hv.kept (grownBy_putObj' W r o') (by simp; omega), hrow.kp hkp ?_⟩, hb.grown (grownBy_putObj' W r o') hb.size (fun x e => by injection e with e; omega), by simpa using hs⟩
    rintro x _ _ cs t hx _ rfl
    rw [hx] at ho
    injection ho with ho
    subst ho
    cases hoc
  case hIS =>
    rintro k W v ⟨⟨v', vs, hv, hrow⟩, hb, hs⟩
    have hkp : Kp (fun x => x = w.heap.size + 1) W (W.setCell ⟨w.heap.size + 1, 0, none⟩ v) := (Kp.refl (fun x => x = w.heap.size + 1) W).setCell (p := ⟨w.heap.size + 1, 0, none⟩) (.inl rfl) v
    refine ⟨⟨v', vs, hv.other (by omega) _, hrow.kp hkp ?_⟩, hb.setCell (by simp) _, Nat.le_trans hs hkp.size⟩
    rintro x hx _ _ _ _ _ rfl
    omega
  case h0 =>
    intro X Y
    exact ⟨⟨_, [], (hbx.alloc _).alloc _, RwV.nil _ _ _⟩, (hb0.alloc hb0.size _).alloc (by simp; omega) _, by simp; omega⟩
  case hiter =>
    intro L J W hW hY hS h0
    have hbW : Boxed W (w.heap.size + 1) 38 (.slice A n c) := (hW.block _ (by omega)).trans hbn
    exact pieces1_in Fence.wide _ trivial rfl (by omega) L (w.heap.size + 1) b off n c A J (fun k W1 hj hk => hY k W1 hj (by unfold np; omega)) hS W hbW hA hc hc2 h0
  case assign =>
    intro L k W K hK
    gi_wp2
    exact hK
  case body =>
    rintro L k W ⟨⟨v, vs, hv, hrow⟩, hb, hs⟩ hk hsz
    have hcell := hv.cell
    have hfr := hv.frozen
    have hd : 1 ≤ 4 - 1 - 1 := by omega
    have hmx : Try.prog.follows .mixedOrders = true := by kernel_rfl
    have hkn := np_lt hk
    have hp : Rs2 W B (some ⟨b, off + 240 * k, none⟩) (min (n - 120 * k) 120) (pc l k) := by
      have h1 := hr.below (hb.mono hB)
      rw [hA (by omega)] at h1
      exact rs2_piece h1 k hkn
    obtain ⟨m, hm⟩ : ∃ m, m = min (n - 120 * k) 120 := ⟨_, rfl⟩
    have hpl : (pc l k).length = m := by rw [pc_len, hr.1, hm]
    have hpv : pv b off n k = .slice (some ⟨b, off + 240 * k, none⟩) m m := by rw [hm]; rfl
    rw [← hm] at hp
    rw [hpv]
    have HPL := Lib.hid hpl
    have hmp : 0 < m := by rw [hm]; omega
    have hcl := clone2_any _ m m B (pc l k) W.drew (hp.keep fun _ _ => rfl) (by show B ≤ W.heap.size; omega) (by omega)
    have hk6 : k ≤ 100000 := by unfold np at hk; omega
    clear hpv hm hpl
    gi_wp2
    refine wpIn_region_any (by assumption) ?_
    change wpAnyIn _ _ _ _ _ _ _ _ _ (World.drew _)
    refine wpAnyIn_ready (rs := [0, 1]) (by kernel_rfl) (by simp) ?_
    refine AllReadyIn.cons rfl (fun K hK => ?_) ?_
    · go_simp
      refine hK _ _ ?_
      clear hK K
      refine wpAnyIn_ready (rs := [1]) (by kernel_rfl) (by simp) ?_
      refine AllReadyIn.cons rfl (fun K hK => ?_) ?_
      · go_simp
        refine hK _ _ ?_
        clear hK K
        refine wpAnyIn_ready (rs := [2]) (by kernel_rfl) (by simp) ?_
        refine AllReadyIn.cons rfl (fun K hK => ?_) ?_
        · go_simp
          gi_wp2_with (refine ⟨trivial, ?_⟩; gi_at_call 55; refine (CallsIn.inRound L (callsIn_wide.2 hcl)).mono ?_; rintro e w1 ⟨u, rfl, hown, hb1⟩; obtain ⟨r, cap, cur, rfl, _⟩ := own_form hown hmp; obtain ⟨g, c2, w3, hrun, hv3, hv4, hr4, hk4, hb4, hn4⟩ := split_step (W1 := w1) (n0 := w.heap.size) (Bn := w.heap.size + 1) hv (Nat.le_refl _) (by omega) (by omega) (by omega) hrow hs ⟨hb1.os, hb1.tape, hb1.output, hb1.size, hb1.block⟩ HPL.out hown hk6; have hc3 := hv3.cell; have hf3 := hv3.frozen; have hc1 : w1.cell? ⟨w.heap.size, 0, none⟩ = some v := (World.cell?_of_block (w := W) (hb1.block w.heap.size (by show w.heap.size < W.heap.size; omega))).trans hcell; have hc1a : (w1.alloc (.cells #[.slice (some ⟨r, 0, none⟩) m cap] 38)).cell? ⟨w.heap.size, 0, none⟩ = some v := cell_kept hc1 (World.grownBy_alloc w1 _ none) (fun r e => by cases e))
          refine wpAnyIn_ready (rs := [3]) (by kernel_rfl) (by simp) ?_
          refine AllReadyIn.cons rfl (fun K hK => ?_) ?_
          · go_simp
            refine hK _ _ ?_
            clear hK K
            refine wpAnyIn_ready (rs := [4]) (by kernel_rfl) (by simp) ?_
            refine AllReadyIn.cons rfl (fun K hK => ?_) ?_
            · refine operIn_append rfl (.tmp 8) (.tmp 11) 39 rfl _ _ rfl rfl hrun ?_
              refine hK _ _ ?_
              clear hK K
              refine wpAnyIn_ready (rs := [5]) (by kernel_rfl) (by simp) ?_
              refine AllReadyIn.cons rfl (fun K hK => ?_) ?_
              · go_simp
                refine hK _ _ ?_
                clear hK K
                refine wpAnyIn_done (by kernel_rfl) ?_ _
                exact ⟨rfl, hk4, hn4, ⟨_, _, hv4, hr4⟩, hb.trans hb4, Nat.le_trans hs hb4.size⟩
              exact AllReadyIn.nil
            exact AllReadyIn.nil
          exact AllReadyIn.nil
        exact AllReadyIn.nil
      exact AllReadyIn.nil
    refine AllReadyIn.cons rfl (fun K hK => ?_) ?_
    · go_simp
      refine hK _ _ ?_
      clear hK K
      refine wpAnyIn_ready (rs := [0, 2]) (by kernel_rfl) (by simp) ?_
      refine AllReadyIn.cons rfl (fun K hK => ?_) ?_
      · go_simp
        refine hK _ _ ?_
        clear hK K
        refine wpAnyIn_ready (rs := [2]) (by kernel_rfl) (by simp) ?_
        refine AllReadyIn.cons rfl (fun K hK => ?_) ?_
        · go_simp
          gi_wp2_with (refine ⟨trivial, ?_⟩; gi_at_call 55; refine (CallsIn.inRound L (callsIn_wide.2 hcl)).mono ?_; rintro e w1 ⟨u, rfl, hown, hb1⟩; obtain ⟨r, cap, cur, rfl, _⟩ := own_form hown hmp; obtain ⟨g, c2, w3, hrun, hv3, hv4, hr4, hk4, hb4, hn4⟩ := split_step (W1 := w1) (n0 := w.heap.size) (Bn := w.heap.size + 1) hv (Nat.le_refl _) (by omega) (by omega) (by omega) hrow hs ⟨hb1.os, hb1.tape, hb1.output, hb1.size, hb1.block⟩ HPL.out hown hk6; have hc3 := hv3.cell; have hf3 := hv3.frozen; have hc1 : w1.cell? ⟨w.heap.size, 0, none⟩ = some v := (World.cell?_of_block (w := W) (hb1.block w.heap.size (by show w.heap.size < W.heap.size; omega))).trans hcell; have hc1a : (w1.alloc (.cells #[.slice (some ⟨r, 0, none⟩) m cap] 38)).cell? ⟨w.heap.size, 0, none⟩ = some v := cell_kept hc1 (World.grownBy_alloc w1 _ none) (fun r e => by cases e))
          refine wpAnyIn_ready (rs := [3]) (by kernel_rfl) (by simp) ?_
          refine AllReadyIn.cons rfl (fun K hK => ?_) ?_
          · go_simp
            refine hK _ _ ?_
            clear hK K
            refine wpAnyIn_ready (rs := [4]) (by kernel_rfl) (by simp) ?_
            refine AllReadyIn.cons rfl (fun K hK => ?_) ?_
            · refine operIn_append rfl (.tmp 8) (.tmp 11) 39 rfl _ _ rfl rfl hrun ?_
              refine hK _ _ ?_
              clear hK K
              refine wpAnyIn_ready (rs := [5]) (by kernel_rfl) (by simp) ?_
              refine AllReadyIn.cons rfl (fun K hK => ?_) ?_
              · go_simp
                refine hK _ _ ?_
                clear hK K
                refine wpAnyIn_done (by kernel_rfl) ?_ _
                exact ⟨rfl, hk4, hn4, ⟨_, _, hv4, hr4⟩, hb.trans hb4, Nat.le_trans hs hb4.size⟩
              exact AllReadyIn.nil
            exact AllReadyIn.nil
          exact AllReadyIn.nil
        exact AllReadyIn.nil
      refine AllReadyIn.cons rfl (fun K hK => ?_) ?_
      · go_simp
        gi_wp2_with (refine ⟨trivial, ?_⟩; gi_at_call 55; refine (CallsIn.inRound L (callsIn_wide.2 hcl)).mono ?_; rintro e w1 ⟨u, rfl, hown, hb1⟩; obtain ⟨r, cap, cur, rfl, _⟩ := own_form hown hmp; obtain ⟨g, c2, w3, hrun, hv3, hv4, hr4, hk4, hb4, hn4⟩ := split_step (W1 := w1) (n0 := w.heap.size) (Bn := w.heap.size + 1) hv (Nat.le_refl _) (by omega) (by omega) (by omega) hrow hs ⟨hb1.os, hb1.tape, hb1.output, hb1.size, hb1.block⟩ HPL.out hown hk6; have hc3 := hv3.cell; have hf3 := hv3.frozen; have hc1 : w1.cell? ⟨w.heap.size, 0, none⟩ = some v := (World.cell?_of_block (w := W) (hb1.block w.heap.size (by show w.heap.size < W.heap.size; omega))).trans hcell; have hc1a : (w1.alloc (.cells #[.slice (some ⟨r, 0, none⟩) m cap] 38)).cell? ⟨w.heap.size, 0, none⟩ = some v := cell_kept hc1 (World.grownBy_alloc w1 _ none) (fun r e => by cases e))
        refine wpAnyIn_ready (rs := [0, 3]) (by kernel_rfl) (by simp) ?_
        refine AllReadyIn.cons rfl (fun K hK => ?_) ?_
        · go_simp
          refine hK _ _ ?_
          clear hK K
          refine wpAnyIn_ready (rs := [3]) (by kernel_rfl) (by simp) ?_
          refine AllReadyIn.cons rfl (fun K hK => ?_) ?_
          · go_simp
            refine hK _ _ ?_
            clear hK K
            refine wpAnyIn_ready (rs := [4]) (by kernel_rfl) (by simp) ?_
            refine AllReadyIn.cons rfl (fun K hK => ?_) ?_
            · refine operIn_append rfl (.tmp 8) (.tmp 11) 39 rfl _ _ rfl rfl hrun ?_
              refine hK _ _ ?_
              clear hK K
              refine wpAnyIn_ready (rs := [5]) (by kernel_rfl) (by simp) ?_
              refine AllReadyIn.cons rfl (fun K hK => ?_) ?_
              · go_simp
                refine hK _ _ ?_
                clear hK K
                refine wpAnyIn_done (by kernel_rfl) ?_ _
                exact ⟨rfl, hk4, hn4, ⟨_, _, hv4, hr4⟩, hb.trans hb4, Nat.le_trans hs hb4.size⟩
              exact AllReadyIn.nil
            exact AllReadyIn.nil
          exact AllReadyIn.nil
        refine AllReadyIn.cons rfl (fun K hK => ?_) ?_
        · go_simp
          refine hK _ _ ?_
          clear hK K
          refine wpAnyIn_ready (rs := [0]) (by kernel_rfl) (by simp) ?_
          refine AllReadyIn.cons rfl (fun K hK => ?_) ?_
          · go_simp
            refine hK _ _ ?_
            clear hK K
            refine wpAnyIn_ready (rs := [4]) (by kernel_rfl) (by simp) ?_
            refine AllReadyIn.cons rfl (fun K hK => ?_) ?_
            · refine operIn_append rfl (.tmp 8) (.tmp 11) 39 rfl _ _ rfl rfl hrun ?_
              refine hK _ _ ?_
              clear hK K
              refine wpAnyIn_ready (rs := [5]) (by kernel_rfl) (by simp) ?_
              refine AllReadyIn.cons rfl (fun K hK => ?_) ?_
              · go_simp
                refine hK _ _ ?_
                clear hK K
                refine wpAnyIn_done (by kernel_rfl) ?_ _
                exact ⟨rfl, hk4, hn4, ⟨_, _, hv4, hr4⟩, hb.trans hb4, Nat.le_trans hs hb4.size⟩
              exact AllReadyIn.nil
            exact AllReadyIn.nil
          exact AllReadyIn.nil
        exact AllReadyIn.nil
      exact AllReadyIn.nil
    exact AllReadyIn.nil
  case done =>
    rintro D W hD ⟨⟨v, vs, hv, hrow⟩, hb, hs⟩ hK
    have hcell := hv.cell
    gi_wp2
    refine ⟨by simp, .inl ⟨_, _, rfl, run_takeDeferred hK, ?_⟩⟩
    have hbD : Below (w.heap.size + 2) W (W.putObj D (.deferred none)) := (Below.refl _ W).grown (grownBy_putObj' W _ _) hs (fun r e => by injection e with e; omega)
    have hkp : Kp (fun x => x = D) W (W.putObj D (.deferred none)) := (Kp.refl _ W).grown (grownBy_putObj' W D _) (fun x _ e => by injection e with e; exact e.symm)
    have hrow2 := hrow.kp hkp (by
      rintro x _ _ cs t hx _ rfl
      rw [hx] at hK
      cases hK)
    exact ⟨_, results_tmp rfl _ _ _, v, vs, rfl, ⟨own_base hrow2.out (by omega), fun j hj => by obtain ⟨u, h1, h2⟩ := hrow2.inn j hj; exact ⟨u, h1, own_base h2 (by omega)⟩, hrow2.dis⟩, hb.trans (hbD.mono (by omega))⟩
end Go.Proofs.Ytnbamngancchmaa
