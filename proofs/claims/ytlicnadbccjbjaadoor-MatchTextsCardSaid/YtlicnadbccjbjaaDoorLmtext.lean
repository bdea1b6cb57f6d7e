/- The text of all matchers, and that it is read as these. -/
import Derived.Test.YtlicnadbccjbjaaDoorEparse
import Derived.Test.YtlicnadbccjbjaaDoorEsame
import Derived.Test.YtlicnadbccjbjaaDoorOpenM
import Derived.Test.YtlicnadbccjbjaaDoorLaid
import Derived.Test.YtlicnadbccjbjaaDoorCards
import Derived.Test.YtlicnadbccjbjaaDoorChecked
namespace Go.Proofs.YtlicnadbccjbjaaDoor.matchTexts
open Go.ChangeShapes Go.WideShapes Go.ChangeAt Go.RowKit Go.Deep LB

theorem text_big {l : List Mat} (h : chkE l = 0) : (bs (mtextL l)).size ≤ 1000000 := by
  rw [bs_size]
  unfold mtextL
  rw [if_neg (by rw [h]; simp)]
  split
  · simp
  · have h1 := join_len (l.map mitem) (fun x hx => by
      obtain ⟨y, hy, rfl⟩ := List.mem_map.1 hx
      exact mitem_len ((chk_mem h).2 y hy))
    have h2 := (chk_mem h).1
    rw [List.length_map] at h1
    omega

set_option maxRecDepth 100000 in
set_option maxHeartbeats 4000000 in
theorem walk (A0 : Option Addr) (n0 c0 : Nat) (l0 : List Mat) (ea : Addr) (w : World) (h0 : Mv w w.heap.size A0 n0 l0) (f0 : FitM n0 l0) (he : w.cell? ⟨0, 0, none⟩ = some (errV ea)) (hp : 0 < w.heap.size) :
    Calls Tryd.prog 6 #[.slice A0 n0 c0] w fun e w' => e = .returned (.bool true) ∧ Below w.heap.size w w' := by
  have hal := alive16 w
  have hq0 := fun W (h : Mv W w.heap.size A0 n0 l0) => big17 A0 n0 c0 w.heap.size l0 W h f0.2 f0.1
  have HE := Lib.hid he
  clear he
  by_cases b0 : 4000 < totM l0
  · have HQ0 := Lib.hid hq0
    have D0 := Lib.hid (decide_eq_true b0)
    clear hq0
    go_enter Tryd.func6, Tryd.ntmps6
    go_wp2_with fail
    refine hal.mono ?_
    rintro e w1 ⟨rfl, hb1⟩
    go_wp2_with fail
    refine (HQ0.out _ (h0.below hb1)).mono ?_
    rintro e w2 ⟨rfl, k, rfl⟩
    rw [D0.out]
    go_wp2_with fail
    go_ret
    exact ⟨rfl, below_drewN hb1 _⟩
  · have HQ0 := Lib.hid hq0
    have D0 := Lib.hid (decide_eq_false b0)
    clear hq0
    go_enter Tryd.func6, Tryd.ntmps6
    go_wp2_with fail
    refine hal.mono ?_
    rintro e w1 ⟨rfl, hb1⟩
    go_wp2_with fail
    refine (HQ0.out _ (h0.below hb1)).mono ?_
    rintro e w2 ⟨rfl, k, rfl⟩
    rw [D0.out]
    obtain ⟨w2, hw2⟩ : ∃ w2, w2 = w1.drewN k := ⟨_, rfl⟩
    have hb2 : Below w.heap.size w w2 := by rw [hw2]; exact below_drewN hb1 _
    rw [← hw2]
    clear hw2 hb1 HQ0 D0 hal
    obtain ⟨S, hS⟩ : ∃ S : ByteArray, S = bs (mtextL l0) := ⟨_, rfl⟩
    have ht := mtext30 A0 n0 c0 w.heap.size l0 w2 (h0.below hb2) hb2.size
    have e0 : (⟨(mtextL l0).toArray⟩ : ByteArray) = S := hS.symm
    rw [e0] at ht
    have HS := Lib.hid hS
    clear hS e0
    go_wp2_with fail
    refine ht.mono ?_
    rintro e w3 ⟨rfl, hb3⟩
    have hb3w : Below w.heap.size w w3 := hb2.trans (hb3.mono hb2.size)
    have hrt := rmtext20 A0 n0 c0 w.heap.size l0 w3 (h0.below hb3w) hb3w.size
    rw [← HS.out] at hrt
    clear ht hb3
    go_wp2_with fail
    refine hrt.mono ?_
    rintro e w4 ⟨rfl, hb4⟩
    have hb4w : Below w.heap.size w w4 := hb3w.trans (hb4.mono hb3w.size)
    clear hrt hb4
    have e1 : (S.toList == S.toList) = true := by simp
    by_cases hm : chkE l0 = 0
    · have hsz : S.size ≤ 1000000 := by rw [HS.out]; exact text_big hm
      have hsd : S.data.toList = mtextL l0 := by rw [HS.out, bs_data]
      have hne : S.toList.isEmpty = false := by
        rw [HS.out, bs_toList]
        cases h : mtextL l0 with
        | nil => exact absurd h (mtext_ne hm)
        | cons a r => rfl
      have hn8 : n0 ≤ 8 := by have h1 := (chk_mem hm).1; have h2 := h0.1; omega
      have hpa := mparse21 S ea w4 hsz ((hb4w.cell (p := ⟨0, 0, none⟩) hp).trans HE.out) (Nat.lt_of_lt_of_le hp hb4w.size)
      have HSD := Lib.hid (And.intro hsd hm)
      clear hm hsd
      go_wp2_with fail
      refine hpa.mono ?_
      rintro e w5 ⟨hb5, hh⟩
      have hb5w : Below w.heap.size w w5 := hb4w.trans (hb5.mono hb4w.size)
      rcases hh with ⟨v, l, rfl, hown, hgl, htl, hun⟩ | ⟨rfl, hno⟩
      · obtain rfl : l0 = l := hun l0 HSD.out.2 HSD.out.1.symm
        have hln : l0.length = n0 := h0.1
        rw [hln] at hown
        obtain ⟨A5, c5, rfl, hlv5, hc51, hc52⟩ := Mv.of_own hown
        have hq1 := msame23 A5 A0 n0 c5 _ c0 _ l0 w5 hlv5 (h0.below hb5w) (by omega)
        clear hpa hun hgl htl hown hlv5 hln
        go_wp2_with fail
        refine (num19 _ _).mono ?_
        rintro e w7 ⟨rfl, hw7⟩
        rw [hw7]
        clear hw7 w7
        go_wp2_with fail
        refine hq1.mono ?_
        rintro e w7 ⟨rfl, k7, rfl⟩
        go_wp2_with fail
        go_ret
        exact ⟨rfl, below_drewN hb5w _⟩
      · exact absurd HSD.out.1.symm (hno l0 HSD.out.2)
    · have hz : S = ⟨#[]⟩ := by rw [HS.out]; unfold mtextL; rw [if_pos hm]; rfl
      have e2 : S.toList.isEmpty = true := by rw [hz, ByteArray.toList_eq]; rfl
      clear hm hz
      go_wp2_with fail
      go_ret
      exact ⟨rfl, hb4w⟩
set_option maxRecDepth 100000 in
theorem lifted (os : Os) (started : os.Started) (H : Type) (enc : TypeId × Value → H) :
    ReturnsInHanded {} Tryd.checked os 6 .any (fun w args => (Rows.matchTextsSpec.pre enc Tryd.prog Tryd.f6 [] false w args ∧ laidMetH Tryd.prog laidE w) ∧ sizedMet enc Tryd.prog Tryd.f6 (OpenSpec.ofChange Rows.matchTextsSpec) false w args)
      (Rows.matchTextsSpec.post enc Tryd.prog Tryd.f6 false true false false) := by
  refine returnsInHanded_of_change_and (C := Tryd.checked) (X := fun w _ => laidMetH Tryd.prog laidE w) (fun _ _ _ hh h => h.of_heap hh) Tryd.own started (by kernel_rfl) Tryd.func6
    (ChangeSpec.witness_shaped (enc := enc) (C := Tryd.checked) (os := os) (X := fun w _ => laidMetH Tryd.prog laidE w) false (World.doorLaid Tryd.prog 400 os) #[.slice none 0 0] 8 rfl (World.shaped_of_RefB (by kernel_rfl) (by kernel_rfl)) (by kernel_rfl) (by kernel_rfl) (by kernel_rfl) (door_met os _)) ?_
  intro W base args ds gs before hval0 hW _ hwt0 hL _
  have hval : ∀ (j : Nat) t v, Tryd.f6.params[j]? = some t → args[j]? = some v → Value.okWide Tryd.prog W .any base t v := hval0
  have hwt : ∀ n ∈ DataW.weightsEach Tryd.prog (Tryd.f6.params.toList ++ Rows.matchTextsSpec.plain.varTypes Tryd.prog) (ds ++ gs), n ≤ reachBytes := fun n hn => by
    have := List.all_eq_true.1 hwt0 n hn
    simpa using this
  have hW' := hW
  obtain ⟨p, q, hA0, hV, rfl, _, _⟩ := hW
  have hA : DataW.TrodAll enc Tryd.prog W 0 (fun _ => true) true Tryd.f6.params.toList args.toList ds p := hA0
  rw [Tryd.params6] at hA hval hwt
  obtain ⟨v0, vs0, d0, ds0, p0, q0, hargs, rfl, rfl, h0, r0⟩ := trodAll_cons hA
  obtain ⟨rfl, rfl, rfl⟩ := trodAll_nil r0
  obtain rfl : args = #[v0] := by cases args; simp_all
  obtain ⟨rfl, rfl⟩ := trodVars_none hV
  obtain ⟨ea, hea, hpos⟩ := of_laid hL
  have hlt : ∀ x, (x ∈ p0) → x.block < W.heap.size := fun x hx => hW'.lt x (by simpa using hx)
  obtain ⟨A0, n0, c0, l0, rfl, rd0, hnc0, hcm0, ft0⟩ := open_mv Tryd.underlying39 (hval 0 39 v0 rfl rfl) h0 (fun x hx => hlt x (by simp [hx])) (fun n hn => hwt n (DataW.weights_mem_each (j := 0) rfl rfl n hn))
  refine (walk A0 n0 c0 l0 ea W rd0 ft0 hea hpos).mono fun e W' ⟨he, hb⟩ => ?_
  subst he
  exact ⟨_, rfl, law_post Tryd.laidOut (by kernel_rfl) rfl rfl Tryd.underlying4 hW' ⟨rfl, rfl, rfl⟩ hb⟩

theorem over : Rows.matchTextsRow.holds Tryd.pinned (OpenSpec.ofChange Rows.matchTextsSpec) :=
  OpenClaim.holds_of_wide 6 Tryd.f6 rfl rfl rfl rfl rfl rfl rfl ⟨rfl, rfl, rfl, rfl, rfl⟩ rfl rfl rfl rfl rfl (by kernel_rfl) Tryd.func6 (by kernel_rfl)
    (of_decide_eq_true (by kernel_rfl)) (by unfold Func.isWrapper; first | (rw [if_pos (by decide +kernel)]; kernel_rfl) | (rw [if_neg (by decide +kernel)]; exact ⟨rfl, rfl⟩))
    (fun os started H enc _ => lifted os started H enc)

/-- THE STATEMENT. -/
theorem proved : Rows.MatchTextsCardSaid :=
  Claim7.holds_tied_plain_at .later [] [.sentinel] true (true, "79b33d0637f02b4c11730adcb40bb79974f4ea777e4c0ca631d8fa8834c34d22") false
    over (fun _ h => by cases h) (by kernel_rfl) (fun _ h => by cases h) matchTexts_row_tie rfl ⟨rfl, rfl⟩ (by kernel_rfl) rfl
    (fun f fn hf hfn => by
      obtain rfl : f = 6 := Option.some.inj ((show Tryd.prog.funcNamed "lysimeter/lysimeterlaw12.MatchTexts" = some 6 by kernel_rfl).symm.trans hf) |>.symm
      obtain rfl : fn = Tryd.f6 := (Option.some.inj (Tryd.func6.symm.trans hfn)).symm
      exact ⟨by kernel_rfl, fun j t ht => by
        rw [Tryd.params6] at ht
        have hm : t ∈ [39] := by simpa using Array.mem_of_getElem? ht
        have hall : ([39].all fun u => !Tryd.prog.wantsStandIn u) = true := by kernel_rfl
        exact (show Tryd.prog.wantsStandIn t = false by simpa using List.all_eq_true.1 hall t hm)⟩)
    (by kernel_rfl)
end Go.Proofs.YtlicnadbccjbjaaDoor.matchTexts
