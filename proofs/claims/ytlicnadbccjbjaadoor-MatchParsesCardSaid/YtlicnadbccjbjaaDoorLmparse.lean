/- Which matchers every text is, or that it is none. -/
import Derived.Test.YtlicnadbccjbjaaDoorEparse
import Derived.Test.YtlicnadbccjbjaaDoorEsame
import Derived.Test.YtlicnadbccjbjaaDoorOpenM
import Derived.Test.YtlicnadbccjbjaaDoorLaid
import Derived.Test.YtlicnadbccjbjaaDoorCards
import Derived.Test.YtlicnadbccjbjaaDoorChecked
import Derived.ChangeMaps5
namespace Go.Proofs.YtlicnadbccjbjaaDoor.matchParses
open Go.ChangeShapes Go.WideShapes Go.ChangeAt Go.RowKit Go.Deep LB

set_option maxRecDepth 100000 in
set_option maxHeartbeats 4000000 in
theorem walk (s : ByteArray) (ea : Addr) (w : World) (he : w.cell? ⟨0, 0, none⟩ = some (errV ea)) (hp : 0 < w.heap.size) :
    Calls Tryd.prog 7 #[.string s] w fun e w' => e = .returned (.bool true) ∧ Below w.heap.size w w' := by
  have hal := alive16 w
  have HE := Lib.hid he
  clear he
  by_cases h3 : 3000 < s.size
  · have d0 : decide ((3000 : Int) < (s.size : Int)) = true := decide_eq_true (by omega)
    have d1 : decide (3000 < s.size) = true := decide_eq_true h3
    go_enter Tryd.func7, Tryd.ntmps7
    go_wp2_with fail
    refine hal.mono ?_
    rintro e w1 ⟨rfl, hb1⟩
    go_wp2_with fail
    go_ret
    exact ⟨rfl, hb1⟩
  · have d0 : decide ((3000 : Int) < (s.size : Int)) = false := decide_eq_false (by omega)
    have d1 : decide (3000 < s.size) = false := decide_eq_false h3
    go_enter Tryd.func7, Tryd.ntmps7
    go_wp2_with fail
    refine hal.mono ?_
    rintro e w1 ⟨rfl, hb1⟩
    have hpa := mparse21 s ea w1 (by omega) ((hb1.cell (p := ⟨0, 0, none⟩) hp).trans HE.out) (Nat.lt_of_lt_of_le hp hb1.size)
    go_wp2_with fail
    refine hpa.mono ?_
    rintro e w2 ⟨hb2, hh⟩
    have hb2w : Below w.heap.size w w2 := hb1.trans (hb2.mono hb1.size)
    have hrp := rmparse24 s w2 (by omega)
    have hs2 := hb2.size
    rcases hh with ⟨v, l, rfl, hown, hgl, htl, hun⟩ | ⟨rfl, hno⟩
    · obtain ⟨A2, c2, rfl, hlv2, hc21, hc22⟩ := Mv.of_own hown
      have HN := Lib.hid (chk_mem hgl).1
      have HG := Lib.hid (And.intro hgl htl)
      have HL := Lib.hid hlv2
      have HUN := Lib.hid hun
      clear hpa hgl htl hlv2 hown hun
      go_wp2_with fail
      refine hrp.mono ?_
      rintro e w3 ⟨hb3, hh⟩
      rcases hh with ⟨v3, l3, rfl, hown3, hgl3, htl3, _⟩ | ⟨rfl, hno⟩
      · obtain rfl : l3 = l := HUN.out l3 hgl3 htl3
        obtain ⟨A3, c3, rfl, hlv3, hc31, hc32⟩ := Mv.of_own hown3
        have hq := msame23 A2 A3 l3.length c2 _ c3 _ l3 w3 (HL.out.below hb3) hlv3 (by have := HN.out; omega)
        have HB := Lib.hid (hb2w.trans (hb3.mono hb2w.size))
        clear hown3 hlv3 hgl3 htl3 hb3
        go_wp2_with fail
        refine (num19 _ _).mono ?_
        rintro e w7 ⟨rfl, hw7⟩
        rw [hw7]
        clear hw7 w7
        go_wp2_with fail
        refine hq.mono ?_
        rintro e w7 ⟨rfl, k7, rfl⟩
        go_wp2_with fail
        go_ret
        exact ⟨rfl, below_drewN HB.out _⟩
      · exact absurd HG.out.2 (hno l HG.out.1)
    · have HNO := Lib.hid hno
      clear hpa hno
      go_wp2_with fail
      refine hrp.mono ?_
      rintro e w3 ⟨hb3, hh⟩
      rcases hh with ⟨v3, l3, rfl, hown3, hgl3, htl3, _⟩ | ⟨rfl, hno⟩
      · exact absurd htl3 (HNO.out l3 hgl3)
      · have hq := msame23 none none 0 0 0 0 0 [] w3 ⟨rfl, fun h => absurd h (by omega)⟩ ⟨rfl, fun h => absurd h (by omega)⟩ (by omega)
        have HB := Lib.hid (hb2w.trans (hb3.mono hb2w.size))
        clear hno hb3
        go_wp2_with fail
        refine (num19 _ _).mono ?_
        rintro e w7 ⟨rfl, hw7⟩
        rw [hw7]
        clear hw7 w7
        go_wp2_with fail
        refine hq.mono ?_
        rintro e w7 ⟨rfl, k7, rfl⟩
        go_wp2_with fail
        go_ret
        exact ⟨rfl, below_drewN HB.out _⟩
set_option maxRecDepth 100000 in
theorem lifted (os : Os) (started : os.Started) (H : Type) (enc : TypeId × Value → H) :
    ReturnsInHanded {} Tryd.checked os 7 .any (fun w args => (Rows.matchParsesSpec.pre enc Tryd.prog Tryd.f7 [] false w args ∧ laidMetH Tryd.prog laidE w) ∧ sizedMet enc Tryd.prog Tryd.f7 (OpenSpec.ofChange Rows.matchParsesSpec) false w args)
      (Rows.matchParsesSpec.post enc Tryd.prog Tryd.f7 false true false false) := by
  refine returnsInHanded_of_change_and (C := Tryd.checked) (X := fun w _ => laidMetH Tryd.prog laidE w) (fun _ _ _ hh h => h.of_heap hh) Tryd.own started (by kernel_rfl) Tryd.func7
    (ChangeSpec.witness_shaped (enc := enc) (C := Tryd.checked) (os := os) (X := fun w _ => laidMetH Tryd.prog laidE w) false (World.doorLaid Tryd.prog 400 os) #[.string ⟨#[]⟩] 8 rfl (World.shaped_of_RefB (by kernel_rfl) (by kernel_rfl)) (by kernel_rfl) (by kernel_rfl) (by kernel_rfl) (door_met os _)) ?_
  intro W base args ds gs before hval0 hW _ hwt0 hL _
  have hval : ∀ (j : Nat) t v, Tryd.f7.params[j]? = some t → args[j]? = some v → Value.okWide Tryd.prog W .any base t v := hval0
  have hwt : ∀ n ∈ DataW.weightsEach Tryd.prog (Tryd.f7.params.toList ++ Rows.matchParsesSpec.plain.varTypes Tryd.prog) (ds ++ gs), n ≤ reachBytes := fun n hn => by
    have := List.all_eq_true.1 hwt0 n hn
    simpa using this
  have hW' := hW
  obtain ⟨p, q, hA0, hV, rfl, _, _⟩ := hW
  have hA : DataW.TrodAll enc Tryd.prog W 0 (fun _ => true) true Tryd.f7.params.toList args.toList ds p := hA0
  rw [Tryd.params7] at hA hval hwt
  obtain ⟨v0, vs0, d0, ds0, p0, q0, hargs, rfl, rfl, h0, r0⟩ := trodAll_cons hA
  obtain ⟨rfl, rfl, rfl⟩ := trodAll_nil r0
  obtain rfl : args = #[v0] := by cases args; simp_all
  obtain ⟨rfl, rfl⟩ := trodVars_none hV
  obtain ⟨ea, hea, hpos⟩ := of_laid hL
  have hlt : ∀ x, (x ∈ p0) → x.block < W.heap.size := fun x hx => hW'.lt x (by simpa using hx)
  obtain ⟨s0, rfl, rfl, rfl, ws0⟩ := Go.ChangeMaps.open_string (P := Tryd.prog) Tryd.underlying9 (hval 0 9 v0 rfl rfl) h0
  refine (walk    s0 ea W   hea hpos).mono fun e W' ⟨he, hb⟩ => ?_
  subst he
  exact ⟨_, rfl, law_post Tryd.laidOut (by kernel_rfl) rfl rfl Tryd.underlying4 hW' ⟨rfl, rfl, rfl⟩ hb⟩

theorem over : Rows.matchParsesRow.holds Tryd.pinned (OpenSpec.ofChange Rows.matchParsesSpec) :=
  OpenClaim.holds_of_wide 7 Tryd.f7 rfl rfl rfl rfl rfl rfl rfl ⟨rfl, rfl, rfl, rfl, rfl⟩ rfl rfl rfl rfl rfl (by kernel_rfl) Tryd.func7 (by kernel_rfl)
    (of_decide_eq_true (by kernel_rfl)) (by unfold Func.isWrapper; first | (rw [if_pos (by decide +kernel)]; kernel_rfl) | (rw [if_neg (by decide +kernel)]; exact ⟨rfl, rfl⟩))
    (fun os started H enc _ => lifted os started H enc)

/-- THE STATEMENT. -/
theorem proved : Rows.MatchParsesCardSaid :=
  Claim7.holds_tied_plain_at .later [] [.sentinel] true (true, "79b33d0637f02b4c11730adcb40bb79974f4ea777e4c0ca631d8fa8834c34d22") false
    over (fun _ h => by cases h) (by kernel_rfl) (fun _ h => by cases h) matchParses_row_tie rfl ⟨rfl, rfl⟩ (by kernel_rfl) rfl
    (fun f fn hf hfn => by
      obtain rfl : f = 7 := Option.some.inj ((show Tryd.prog.funcNamed "lysimeter/lysimeterlaw12.MatchParses" = some 7 by kernel_rfl).symm.trans hf) |>.symm
      obtain rfl : fn = Tryd.f7 := (Option.some.inj (Tryd.func7.symm.trans hfn)).symm
      exact ⟨by kernel_rfl, fun j t ht => by
        rw [Tryd.params7] at ht
        have hm : t ∈ [9] := by simpa using Array.mem_of_getElem? ht
        have hall : ([9].all fun u => !Tryd.prog.wantsStandIn u) = true := by kernel_rfl
        exact (show Tryd.prog.wantsStandIn t = false by simpa using List.all_eq_true.1 hall t hm)⟩)
    (by kernel_rfl)
end Go.Proofs.YtlicnadbccjbjaaDoor.matchParses
