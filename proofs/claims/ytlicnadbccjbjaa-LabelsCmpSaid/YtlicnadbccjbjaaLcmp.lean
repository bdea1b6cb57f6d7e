/- labels.Cmp tells how all labels stand to one another, as the document says, and it is an order. Without conditions. -/
import Derived.Test.YtlicnadbccjbjaaCmpW
import Derived.Test.YtlicnadbccjbjaaRows
import Derived.Test.YtlicnadbccjbjaaChecked
namespace Go.Proofs.Ytlicnadbccjbjaa.labelsCmp
open Go.ChangeShapes Go.WideShapes Go.ChangeAt Go.RowKit Go.Deep LB

set_option maxRecDepth 100000 in
set_option maxHeartbeats 4000000 in
theorem walk (A0 A1 A2 : Option Addr) (n0 c0 n1 c1 n2 c2 : Nat) (l0 l1 l2 : List Lab) (w : World) (h0 : Lv w w.heap.size A0 n0 l0) (h1 : Lv w w.heap.size A1 n1 l1) (h2 : Lv w w.heap.size A2 n2 l2) (f0 : Fit n0 l0) (f1 : Fit n1 l1) (f2 : Fit n2 l2) :
    Calls Try.prog 4 #[.slice A0 n0 c0, .slice A1 n1 c1, .slice A2 n2 c2] w fun e w' => e = .returned (.bool true) ∧ Below w.heap.size w w' := by
  have hal := alive_any w
  have hq0 := fun W (h : Lv W w.heap.size A0 n0 l0) => big_any A0 n0 c0 w.heap.size l0 W h f0.2 f0.1
  have hq1 := fun W (h : Lv W w.heap.size A1 n1 l1) => big_any A1 n1 c1 w.heap.size l1 W h f1.2 f1.1
  have hq2 := fun W (h : Lv W w.heap.size A2 n2 l2) => big_any A2 n2 c2 w.heap.size l2 W h f2.2 f2.1
  have HQ0 := Lib.hid hq0
  have HQ1 := Lib.hid hq1
  have HQ2 := Lib.hid hq2
  clear hq0 hq1 hq2
  by_cases b0 : 4000 < tot l0
  · have D0 := Lib.hid (decide_eq_true b0)
    go_enter Try.func4, Try.ntmps4
    go_wp2_with fail
    refine hal.mono ?_
    rintro e w1 ⟨rfl, hb1⟩
    go_wp2_with fail
    refine (HQ0.out _ (h0.below hb1)).mono ?_
    rintro e w2 ⟨rfl, k, rfl⟩
    rw [D0.out]
    go_wp2_with fail
    go_ret
    exact ⟨rfl, below_drewN hb1 _⟩
  · have D0 := Lib.hid (decide_eq_false b0)
    by_cases b1 : 4000 < tot l1
    · have D1 := Lib.hid (decide_eq_true b1)
      go_enter Try.func4, Try.ntmps4
      go_wp2_with fail
      refine hal.mono ?_
      rintro e w1 ⟨rfl, hb1⟩
      go_wp2_with fail
      refine (HQ0.out _ (h0.below hb1)).mono ?_
      rintro e w2 ⟨rfl, k, rfl⟩
      rw [D0.out]
      go_wp2_with fail
      refine (HQ1.out _ ((h1.below hb1).drewN k)).mono ?_
      rintro e w2 ⟨rfl, k2, rfl⟩
      rw [D1.out]
      go_wp2_with fail
      go_ret
      exact ⟨rfl, below_drewN hb1 _⟩
    · have D1 := Lib.hid (decide_eq_false b1)
      by_cases b2 : 4000 < tot l2
      · have D2 := Lib.hid (decide_eq_true b2)
        go_enter Try.func4, Try.ntmps4
        go_wp2_with fail
        refine hal.mono ?_
        rintro e w1 ⟨rfl, hb1⟩
        go_wp2_with fail
        refine (HQ0.out _ (h0.below hb1)).mono ?_
        rintro e w2 ⟨rfl, k, rfl⟩
        rw [D0.out]
        go_wp2_with fail
        refine (HQ1.out _ ((h1.below hb1).drewN k)).mono ?_
        rintro e w2 ⟨rfl, k2, rfl⟩
        rw [D1.out]
        go_wp2_with fail
        refine (HQ2.out _ ((h2.below hb1).drewN _)).mono ?_
        rintro e w2 ⟨rfl, k3, rfl⟩
        rw [D2.out]
        go_wp2_with fail
        go_ret
        exact ⟨rfl, below_drewN hb1 _⟩
      · have D2 := Lib.hid (decide_eq_false b2)
        have hn0 : n0 ≤ 1000000 := by have := tot_len l0; have := h0.1; omega
        have hn1 : n1 ≤ 1000000 := by have := tot_len l1; have := h1.1; omega
        have hn2 : n2 ≤ 1000000 := by have := tot_len l2; have := h2.1; omega
        obtain ⟨X, hX⟩ : ∃ X, X = cmpL l0 l1 := ⟨_, rfl⟩
        obtain ⟨Y, hY⟩ : ∃ Y, Y = cmpL l1 l2 := ⟨_, rfl⟩
        obtain ⟨Z, hZ⟩ : ∃ Z, Z = cmpL l0 l2 := ⟨_, rfl⟩
        obtain ⟨V, hV⟩ : ∃ V, V = cmpL l1 l0 := ⟨_, rfl⟩
        obtain ⟨U, hU⟩ : ∃ U, U = cmpL l0 l0 := ⟨_, rfl⟩
        have q01 := fun W (hb : Below w.heap.size w W) => cmp14 A0 A1 n0 c0 w.heap.size n1 c1 w.heap.size l0 l1 W (h0.below hb) (h1.below hb) hb.size hb.size hn0 hn1
        have q12 := fun W (hb : Below w.heap.size w W) => cmp14 A1 A2 n1 c1 w.heap.size n2 c2 w.heap.size l1 l2 W (h1.below hb) (h2.below hb) hb.size hb.size hn1 hn2
        have q02 := fun W (hb : Below w.heap.size w W) => cmp14 A0 A2 n0 c0 w.heap.size n2 c2 w.heap.size l0 l2 W (h0.below hb) (h2.below hb) hb.size hb.size hn0 hn2
        have q10 := fun W (hb : Below w.heap.size w W) => cmp14 A1 A0 n1 c1 w.heap.size n0 c0 w.heap.size l1 l0 W (h1.below hb) (h0.below hb) hb.size hb.size hn1 hn0
        have q00 := fun W (hb : Below w.heap.size w W) => cmp14 A0 A0 n0 c0 w.heap.size n0 c0 w.heap.size l0 l0 W (h0.below hb) (h0.below hb) hb.size hb.size hn0 hn0
        have r01 := fun W (hb : Below w.heap.size w W) => cmp15 A0 A1 n0 c0 w.heap.size n1 c1 w.heap.size l0 l1 W (h0.below hb) (h1.below hb) hn0 hn1
        simp only [← hX, ← hY, ← hZ, ← hV, ← hU] at q01 q12 q02 q10 q00 r01
        have Q01 := Lib.hid q01
        have Q12 := Lib.hid q12
        have Q02 := Lib.hid q02
        have Q10 := Lib.hid q10
        have Q00 := Lib.hid q00
        have R01 := Lib.hid r01
        have xr := cmpL_range l0 l1
        rw [← hX] at xr
        obtain ⟨xr1, xr2⟩ := xr
        have e1 : (X == X) = true := by simp
        have e2 : (V == -X) = true := by rw [hV, hX, cmpL_flip l0 l1]; simp
        have e3 : (U == 0) = true := by rw [hU, cmpL_self]; rfl
        have ho : ¬ (X ≤ 0 ∧ Y ≤ 0 ∧ 0 < Z) := by rw [hX, hY, hZ]; exact cmpL_order l0 l1 l2
        clear q01 q12 q02 q10 q00 r01 hX hY hZ hV hU
        have main : ∃ p q : Bool, decide (X ≤ 0) = p ∧ decide (Y ≤ 0) = q ∧ (p = true → q = true → decide (0 < Z) = false) := by
          refine ⟨_, _, rfl, rfl, fun hp hq => ?_⟩
          have := of_decide_eq_true hp
          have := of_decide_eq_true hq
          exact decide_eq_false (by omega)
        obtain ⟨p, q, hp, hq, hz⟩ := main
        clear ho
        cases p
        · clear hz hq
          go_enter Try.func4, Try.ntmps4
          go_wp2_with fail
          refine hal.mono ?_
          rintro e w1 ⟨rfl, hb1⟩
          go_wp2_with fail
          refine (HQ0.out _ (h0.below hb1)).mono ?_
          rintro e w2 ⟨rfl, k, rfl⟩
          rw [D0.out]
          go_wp2_with fail
          refine (HQ1.out _ ((h1.below hb1).drewN k)).mono ?_
          rintro e w2 ⟨rfl, k2, rfl⟩
          rw [D1.out]
          go_wp2_with fail
          refine (HQ2.out _ ((h2.below hb1).drewN _)).mono ?_
          rintro e w2 ⟨rfl, k3, rfl⟩
          rw [D2.out]
          go_wp2_with fail
          have hb2 := below_drewN hb1 (k + k2 + k3)
          refine (Q01.out _ (by first | exact hb2 | exact below_drewN hb1 _)).mono ?_
          rintro e w3 ⟨rfl, hb3⟩
          have hb3' : Below w.heap.size w w3 := (below_drewN hb1 _).trans (hb3.mono (below_drewN hb1 _).size)
          go_wp2_with fail
          refine (Q12.out _ hb3').mono ?_
          rintro e w4 ⟨rfl, hb4⟩
          have hb4' : Below w.heap.size w w4 := hb3'.trans (hb4.mono hb3'.size)
          go_wp2_with fail
          refine (Q02.out _ hb4').mono ?_
          rintro e w5 ⟨rfl, hb5⟩
          have hb5' : Below w.heap.size w w5 := hb4'.trans (hb5.mono hb4'.size)
          go_wp2_with fail
          refine (R01.out _ hb5').mono ?_
          rintro e w6 ⟨rfl, k6, rfl⟩
          have hb6' := below_drewN hb5' k6
          go_wp2_with fail
          refine (Q10.out _ hb6').mono ?_
          rintro e w7 ⟨rfl, hb7⟩
          have hb7' : Below w.heap.size w w7 := hb6'.trans (hb7.mono hb6'.size)
          go_wp2_with fail
          refine (Q00.out _ hb7').mono ?_
          rintro e w8 ⟨rfl, hb8⟩
          have HE := Lib.hid (hb7'.trans (hb8.mono hb7'.size))
          go_wp2_with fail
          go_ret
          exact ⟨rfl, HE.out⟩
        · cases q
          · clear hz
            go_enter Try.func4, Try.ntmps4
            go_wp2_with fail
            refine hal.mono ?_
            rintro e w1 ⟨rfl, hb1⟩
            go_wp2_with fail
            refine (HQ0.out _ (h0.below hb1)).mono ?_
            rintro e w2 ⟨rfl, k, rfl⟩
            rw [D0.out]
            go_wp2_with fail
            refine (HQ1.out _ ((h1.below hb1).drewN k)).mono ?_
            rintro e w2 ⟨rfl, k2, rfl⟩
            rw [D1.out]
            go_wp2_with fail
            refine (HQ2.out _ ((h2.below hb1).drewN _)).mono ?_
            rintro e w2 ⟨rfl, k3, rfl⟩
            rw [D2.out]
            go_wp2_with fail
            have hb2 := below_drewN hb1 (k + k2 + k3)
            refine (Q01.out _ (by first | exact hb2 | exact below_drewN hb1 _)).mono ?_
            rintro e w3 ⟨rfl, hb3⟩
            have hb3' : Below w.heap.size w w3 := (below_drewN hb1 _).trans (hb3.mono (below_drewN hb1 _).size)
            go_wp2_with fail
            refine (Q12.out _ hb3').mono ?_
            rintro e w4 ⟨rfl, hb4⟩
            have hb4' : Below w.heap.size w w4 := hb3'.trans (hb4.mono hb3'.size)
            go_wp2_with fail
            refine (Q02.out _ hb4').mono ?_
            rintro e w5 ⟨rfl, hb5⟩
            have hb5' : Below w.heap.size w w5 := hb4'.trans (hb5.mono hb4'.size)
            go_wp2_with fail
            refine (R01.out _ hb5').mono ?_
            rintro e w6 ⟨rfl, k6, rfl⟩
            have hb6' := below_drewN hb5' k6
            go_wp2_with fail
            refine (Q10.out _ hb6').mono ?_
            rintro e w7 ⟨rfl, hb7⟩
            have hb7' : Below w.heap.size w w7 := hb6'.trans (hb7.mono hb6'.size)
            go_wp2_with fail
            refine (Q00.out _ hb7').mono ?_
            rintro e w8 ⟨rfl, hb8⟩
            have HE := Lib.hid (hb7'.trans (hb8.mono hb7'.size))
            go_wp2_with fail
            go_ret
            exact ⟨rfl, HE.out⟩
          · have hzz := hz rfl rfl
            clear hz
            go_enter Try.func4, Try.ntmps4
            go_wp2_with fail
            refine hal.mono ?_
            rintro e w1 ⟨rfl, hb1⟩
            go_wp2_with fail
            refine (HQ0.out _ (h0.below hb1)).mono ?_
            rintro e w2 ⟨rfl, k, rfl⟩
            rw [D0.out]
            go_wp2_with fail
            refine (HQ1.out _ ((h1.below hb1).drewN k)).mono ?_
            rintro e w2 ⟨rfl, k2, rfl⟩
            rw [D1.out]
            go_wp2_with fail
            refine (HQ2.out _ ((h2.below hb1).drewN _)).mono ?_
            rintro e w2 ⟨rfl, k3, rfl⟩
            rw [D2.out]
            go_wp2_with fail
            have hb2 := below_drewN hb1 (k + k2 + k3)
            refine (Q01.out _ (by first | exact hb2 | exact below_drewN hb1 _)).mono ?_
            rintro e w3 ⟨rfl, hb3⟩
            have hb3' : Below w.heap.size w w3 := (below_drewN hb1 _).trans (hb3.mono (below_drewN hb1 _).size)
            go_wp2_with fail
            refine (Q12.out _ hb3').mono ?_
            rintro e w4 ⟨rfl, hb4⟩
            have hb4' : Below w.heap.size w w4 := hb3'.trans (hb4.mono hb3'.size)
            go_wp2_with fail
            refine (Q02.out _ hb4').mono ?_
            rintro e w5 ⟨rfl, hb5⟩
            have hb5' : Below w.heap.size w w5 := hb4'.trans (hb5.mono hb4'.size)
            go_wp2_with fail
            refine (R01.out _ hb5').mono ?_
            rintro e w6 ⟨rfl, k6, rfl⟩
            have hb6' := below_drewN hb5' k6
            go_wp2_with fail
            refine (Q10.out _ hb6').mono ?_
            rintro e w7 ⟨rfl, hb7⟩
            have hb7' : Below w.heap.size w w7 := hb6'.trans (hb7.mono hb6'.size)
            go_wp2_with fail
            refine (Q00.out _ hb7').mono ?_
            rintro e w8 ⟨rfl, hb8⟩
            have HE := Lib.hid (hb7'.trans (hb8.mono hb7'.size))
            go_wp2_with fail
            go_ret
            exact ⟨rfl, HE.out⟩
set_option maxRecDepth 100000 in
theorem lifted (os : Os) (started : os.Started) (H : Type) (enc : TypeId × Value → H) :
    ReturnsInHanded {} Try.checked os 4 .any (Rows.labelsCmpSpec.pre6 enc Try.prog Try.f4 Rows.labelsCmpRow.domain false) (Rows.labelsCmpSpec.post enc Try.prog Try.f4 false true false false) := by
  refine returnsInHanded_of_change_sized (C := Try.checked) Try.own started (by kernel_rfl) Try.func4
    (ChangeSpec.witness6 (enc := enc) (C := Try.checked) false ⟨#[], #[.slice none 0 0, .slice none 0 0, .slice none 0 0], []⟩ 8 (by kernel_rfl) (by kernel_rfl) (by kernel_rfl) (by kernel_rfl)) ?_
  intro W base args ds gs before hval0 hW hcnd hwt0 _
  have hval : ∀ (j : Nat) t v, Try.f4.params[j]? = some t → args[j]? = some v → Value.okWide Try.prog W .any base t v := hval0
  have hwt : ∀ n ∈ DataW.weightsEach Try.prog (Try.f4.params.toList ++ Rows.labelsCmpSpec.plain.varTypes Try.prog) (ds ++ gs), n ≤ reachBytes := fun n hn => by
    have := List.all_eq_true.1 hwt0 n hn
    simpa using this
  have hW' := hW
  obtain ⟨p, q, hA0, hV, rfl, _, _⟩ := hW
  have hA : DataW.TrodAll enc Try.prog W 0 (fun _ => true) true Try.f4.params.toList args.toList ds p := hA0
  rw [Try.params4] at hA hval hwt
  obtain ⟨v0, vs0, d0, ds0, p0, q0, hargs, rfl, rfl, h0, r0⟩ := trodAll_cons hA
  obtain ⟨v1, vs1, d1, ds1, p1, q1, rfl, rfl, rfl, h1, r1⟩ := trodAll_cons r0
  obtain ⟨v2, vs2, d2, ds2, p2, q2, rfl, rfl, rfl, h2, r2⟩ := trodAll_cons r1
  obtain ⟨rfl, rfl, rfl⟩ := trodAll_nil r2
  obtain rfl : args = #[v0, v1, v2] := by cases args; simp_all
  obtain ⟨rfl, rfl⟩ := trodVars_none hV
  have hlt : ∀ x, (x ∈ p0 ∨ x ∈ p1 ∨ x ∈ p2) → x.block < W.heap.size := fun x hx => hW'.lt x (by simpa using hx)
  obtain ⟨A0, n0, c0, l0, rfl, rd0, hnc0, hcm0, ft0⟩ := open_lv Try.underlying22 (hval 0 22 v0 rfl rfl) h0 (fun x hx => hlt x (by simp [hx])) (fun n hn => hwt n (DataW.weights_mem_each (j := 0) rfl rfl n hn))
  obtain ⟨A1, n1, c1, l1, rfl, rd1, hnc1, hcm1, ft1⟩ := open_lv Try.underlying22 (hval 1 22 v1 rfl rfl) h1 (fun x hx => hlt x (by simp [hx])) (fun n hn => hwt n (DataW.weights_mem_each (j := 1) rfl rfl n hn))
  obtain ⟨A2, n2, c2, l2, rfl, rd2, hnc2, hcm2, ft2⟩ := open_lv Try.underlying22 (hval 2 22 v2 rfl rfl) h2 (fun x hx => hlt x (by simp [hx])) (fun n hn => hwt n (DataW.weights_mem_each (j := 2) rfl rfl n hn))
  refine (walk A0 A1 A2 n0 c0 n1 c1 n2 c2 l0 l1 l2 W rd0 rd1 rd2 ft0 ft1 ft2).mono fun e W' ⟨he, hb⟩ => ?_
  subst he
  exact ⟨_, rfl, law_post Try.laidOut (by kernel_rfl) rfl rfl Try.underlying4 hW' ⟨rfl, rfl, rfl⟩ hb⟩

theorem over : Rows.labelsCmpRow.holds Try.pinned (OpenSpec.ofChange Rows.labelsCmpSpec) :=
  OpenClaim.holds_of_wide 4 Try.f4 rfl rfl rfl rfl rfl rfl rfl ⟨rfl, rfl, rfl, rfl, rfl⟩ rfl rfl rfl rfl rfl (by kernel_rfl) Try.func4 (by kernel_rfl)
    (of_decide_eq_true (by kernel_rfl)) (by unfold Func.isWrapper; first | (rw [if_pos (by decide +kernel)]; kernel_rfl) | (rw [if_neg (by decide +kernel)]; exact ⟨rfl, rfl⟩))
    (fun os started H enc _ => lifted os started H enc)

/-- THE STATEMENT. -/
theorem proved : Rows.LabelsCmpSaid :=
  over
end Go.Proofs.Ytlicnadbccjbjaa.labelsCmp
