/- match.Check and match.Fits answer for all matchers and labels what the document says. Without conditions. -/
import Derived.Test.YtlicnadbccjbjaaOpenM
import Derived.Test.YtlicnadbccjbjaaRows
import Derived.Test.YtlicnadbccjbjaaChecked
namespace Go.Proofs.Ytlicnadbccjbjaa.matchFits
open Go.ChangeShapes Go.WideShapes Go.ChangeAt Go.RowKit Go.Deep LB

set_option maxRecDepth 100000 in
set_option maxHeartbeats 4000000 in
theorem walk (A0 A1 : Option Addr) (n0 c0 n1 c1 : Nat) (l0 : List Mat) (l1 : List Lab) (w : World) (h0 : Mv w w.heap.size A0 n0 l0) (h1 : Lv w w.heap.size A1 n1 l1) (f0 : FitM n0 l0) (f1 : Fit n1 l1) :
    Calls Try.prog 5 #[.slice A0 n0 c0, .slice A1 n1 c1] w fun e w' => e = .returned (.bool true) ∧ Below w.heap.size w w' := by
  have hal := alive16 w
  have hq0 := fun W (h : Mv W w.heap.size A0 n0 l0) => big17 A0 n0 c0 w.heap.size l0 W h f0.2 f0.1
  have hq1 := fun W (h : Lv W w.heap.size A1 n1 l1) => big_any A1 n1 c1 w.heap.size l1 W h f1.2 f1.1
  have HQ0 := Lib.hid hq0
  have HQ1 := Lib.hid hq1
  clear hq0 hq1
  by_cases b0 : 4000 < totM l0
  · have D0 := Lib.hid (decide_eq_true b0)
    go_enter Try.func5, Try.ntmps5
    go_wp2_with fail
    refine hal.mono ?_
    rintro e w1 ⟨rfl, hb1⟩
    go_wp2_with fail
    refine (HQ0.out _ (h0.below hb1)).mono ?_
    rintro e w2 ⟨rfl, k, rfl⟩
    rw [D0.out]
    go_wp2_with fail
    go_ret
    exact ⟨rfl, below_drewN hb1 _⟩
  · have D0 := Lib.hid (decide_eq_false b0)
    by_cases b1 : 4000 < tot l1
    · have D1 := Lib.hid (decide_eq_true b1)
      go_enter Try.func5, Try.ntmps5
      go_wp2_with fail
      refine hal.mono ?_
      rintro e w1 ⟨rfl, hb1⟩
      go_wp2_with fail
      refine (HQ0.out _ (h0.below hb1)).mono ?_
      rintro e w2 ⟨rfl, k, rfl⟩
      rw [D0.out]
      go_wp2_with fail
      refine (HQ1.out _ ((h1.below hb1).drewN k)).mono ?_
      rintro e w2 ⟨rfl, k2, rfl⟩
      rw [D1.out]
      go_wp2_with fail
      go_ret
      exact ⟨rfl, below_drewN hb1 _⟩
    · have D1 := Lib.hid (decide_eq_false b1)
      have hn1 : n1 ≤ 1000000 := by have := tot_len l1; have := h1.1; omega
      obtain ⟨E, hE⟩ : ∃ E, E = chkE l0 := ⟨_, rfl⟩
      obtain ⟨F, hF⟩ : ∃ F, F = fitsB l0 l1 := ⟨_, rfl⟩
      have q0 := fun W (hb : Below w.heap.size w W) => check18 A0 n0 c0 w.heap.size l0 W (h0.below hb) hb.size
      have q1 := fun W (hb : Below w.heap.size w W) => rcheck20 A0 n0 c0 w.heap.size l0 W (h0.below hb)
      have q2 := fun W (hb : Below w.heap.size w W) => fits21 A0 n0 c0 w.heap.size l0 A1 n1 c1 w.heap.size l1 W (h0.below hb) hb.size (h1.below hb) hb.size hn1
      have q3 := fun W (hb : Below w.heap.size w W) => rfits22 A0 n0 c0 w.heap.size l0 A1 n1 c1 w.heap.size l1 W (h0.below hb) (h1.below hb) hn1 (fun x hx => (f1.2 x hx).2)
      simp only [← hE, ← hF] at q0 q1 q2 q3
      have Q0 := Lib.hid q0
      have Q1 := Lib.hid q1
      have Q2 := Lib.hid q2
      have Q3 := Lib.hid q3
      have e1 : (E == E) = true := by simp
      clear q0 q1 q2 q3 hE hF
      go_enter Try.func5, Try.ntmps5
      go_wp2_with fail
      refine hal.mono ?_
      rintro e w1 ⟨rfl, hb1⟩
      go_wp2_with fail
      refine (HQ0.out _ (h0.below hb1)).mono ?_
      rintro e w2 ⟨rfl, k, rfl⟩
      rw [D0.out]
      go_wp2_with fail
      refine (HQ1.out _ ((h1.below hb1).drewN k)).mono ?_
      rintro e w2 ⟨rfl, k2, rfl⟩
      rw [D1.out]
      go_wp2_with fail
      refine (Q0.out _ (below_drewN hb1 _)).mono ?_
      rintro e w3 ⟨rfl, hb3⟩
      have hb3' : Below w.heap.size w w3 := (below_drewN hb1 _).trans (hb3.mono (below_drewN hb1 _).size)
      go_wp2_with fail
      refine (num19 _ _).mono ?_
      rintro e w4 ⟨rfl, hw4⟩; rw [hw4]; clear hw4 w4
      go_wp2_with fail
      refine (Q1.out _ hb3').mono ?_
      rintro e w4 ⟨rfl, hw4⟩; rw [hw4]; clear hw4 w4
      go_wp2_with fail
      refine (Q2.out _ hb3').mono ?_
      rintro e w4 ⟨rfl, hb4⟩
      have hb4' : Below w.heap.size w w4 := hb3'.trans (hb4.mono hb3'.size)
      go_wp2_with fail
      refine (Q3.out _ hb4').mono ?_
      rintro e w5 ⟨rfl, k5, rfl⟩
      have HE := Lib.hid (below_drewN hb4' k5)
      cases F
      all_goals
        go_wp2_with fail
        go_ret
        exact ⟨rfl, HE.out⟩
set_option maxRecDepth 100000 in
theorem lifted (os : Os) (started : os.Started) (H : Type) (enc : TypeId × Value → H) :
    ReturnsInHanded {} Try.checked os 5 .any (Rows.matchFitsSpec.pre6 enc Try.prog Try.f5 Rows.matchFitsRow.domain false) (Rows.matchFitsSpec.post enc Try.prog Try.f5 false true false false) := by
  refine returnsInHanded_of_change_sized (C := Try.checked) Try.own started (by kernel_rfl) Try.func5
    (ChangeSpec.witness6 (enc := enc) (C := Try.checked) false ⟨#[], #[.slice none 0 0, .slice none 0 0], []⟩ 8 (by kernel_rfl) (by kernel_rfl) (by kernel_rfl) (by kernel_rfl)) ?_
  intro W base args ds gs before hval0 hW hcnd hwt0 _
  have hval : ∀ (j : Nat) t v, Try.f5.params[j]? = some t → args[j]? = some v → Value.okWide Try.prog W .any base t v := hval0
  have hwt : ∀ n ∈ DataW.weightsEach Try.prog (Try.f5.params.toList ++ Rows.matchFitsSpec.plain.varTypes Try.prog) (ds ++ gs), n ≤ reachBytes := fun n hn => by
    have := List.all_eq_true.1 hwt0 n hn
    simpa using this
  have hW' := hW
  obtain ⟨p, q, hA0, hV, rfl, _, _⟩ := hW
  have hA : DataW.TrodAll enc Try.prog W 0 (fun _ => true) true Try.f5.params.toList args.toList ds p := hA0
  rw [Try.params5] at hA hval hwt
  obtain ⟨v0, vs0, d0, ds0, p0, q0, hargs, rfl, rfl, h0, r0⟩ := trodAll_cons hA
  obtain ⟨v1, vs1, d1, ds1, p1, q1, rfl, rfl, rfl, h1, r1⟩ := trodAll_cons r0
  obtain ⟨rfl, rfl, rfl⟩ := trodAll_nil r1
  obtain rfl : args = #[v0, v1] := by cases args; simp_all
  obtain ⟨rfl, rfl⟩ := trodVars_none hV
  have hlt : ∀ x, (x ∈ p0 ∨ x ∈ p1) → x.block < W.heap.size := fun x hx => hW'.lt x (by simpa using hx)
  obtain ⟨A0, n0, c0, l0, rfl, rd0, hnc0, hcm0, ft0⟩ := open_mv Try.underlying37 (hval 0 37 v0 rfl rfl) h0 (fun x hx => hlt x (by simp [hx])) (fun n hn => hwt n (DataW.weights_mem_each (j := 0) rfl rfl n hn))
  obtain ⟨A1, n1, c1, l1, rfl, rd1, hnc1, hcm1, ft1⟩ := open_lv Try.underlying22 (hval 1 22 v1 rfl rfl) h1 (fun x hx => hlt x (by simp [hx])) (fun n hn => hwt n (DataW.weights_mem_each (j := 1) rfl rfl n hn))
  refine (walk A0 A1 n0 c0 n1 c1 l0 l1 W rd0 rd1 ft0 ft1).mono fun e W' ⟨he, hb⟩ => ?_
  subst he
  exact ⟨_, rfl, law_post Try.laidOut (by kernel_rfl) rfl rfl Try.underlying4 hW' ⟨rfl, rfl, rfl⟩ hb⟩

theorem over : Rows.matchFitsRow.holds Try.pinned (OpenSpec.ofChange Rows.matchFitsSpec) :=
  OpenClaim.holds_of_wide 5 Try.f5 rfl rfl rfl rfl rfl rfl rfl ⟨rfl, rfl, rfl, rfl, rfl⟩ rfl rfl rfl rfl rfl (by kernel_rfl) Try.func5 (by kernel_rfl)
    (of_decide_eq_true (by kernel_rfl)) (by unfold Func.isWrapper; first | (rw [if_pos (by decide +kernel)]; kernel_rfl) | (rw [if_neg (by decide +kernel)]; exact ⟨rfl, rfl⟩))
    (fun os started H enc _ => lifted os started H enc)

/-- THE STATEMENT. -/
theorem proved : Rows.MatchFitsSaid :=
  over
end Go.Proofs.Ytlicnadbccjbjaa.matchFits
