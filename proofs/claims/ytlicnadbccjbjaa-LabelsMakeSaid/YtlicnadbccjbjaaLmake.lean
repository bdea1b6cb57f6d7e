/- labels.Make tells all labels in their order, or that they can't be, as the document says; what is handed in stays, two answers in hand are two. Without conditions. -/
import Derived.Test.YtlicnadbccjbjaaOpenL
import Derived.Test.YtlicnadbccjbjaaRows
import Derived.Test.YtlicnadbccjbjaaChecked
namespace Go.Proofs.Ytlicnadbccjbjaa.labelsMake
open Go.ChangeShapes Go.WideShapes Go.ChangeAt Go.RowKit Go.Deep LB

set_option maxRecDepth 100000 in
set_option maxHeartbeats 4000000 in
theorem walk (A0 A1 : Option Addr) (n0 c0 n1 c1 : Nat) (l0 l1 : List Lab) (w : World) (h0 : Lv w w.heap.size A0 n0 l0) (h1 : Lv w w.heap.size A1 n1 l1) (f0 : Fit n0 l0) (f1 : Fit n1 l1) :
    Calls Try.prog 3 #[.slice A0 n0 c0, .slice A1 n1 c1] w fun e w' => e = .returned (.bool true) ∧ Below w.heap.size w w' := by
  have hal := alive_any w
  have hq0 := fun W (h : Lv W w.heap.size A0 n0 l0) => big_any A0 n0 c0 w.heap.size l0 W h f0.2 f0.1
  have hq1 := fun W (h : Lv W w.heap.size A1 n1 l1) => big_any A1 n1 c1 w.heap.size l1 W h f1.2 f1.1
  by_cases b0 : 4000 < tot l0
  · have HQ0 := Lib.hid hq0
    have d0 : decide (4000 < tot l0) = true := decide_eq_true b0
    have D0 := Lib.hid d0
    clear hq0 hq1 d0
    go_enter Try.func3, Try.ntmps3
    go_wp2_with (first | (go_at_call 7; refine hal.mono ?_; rintro e w1 ⟨rfl, hb1⟩) | (go_at_call 8; refine (HQ0.out _ (h0.below hb1)).mono ?_; rintro e w2 ⟨rfl, k, rfl⟩; rw [D0.out]))
    go_ret
    exact ⟨rfl, below_drewN hb1 _⟩
  · have d0 : decide (4000 < tot l0) = false := decide_eq_false b0
    by_cases b1 : 4000 < tot l1
    · have HQ0 := Lib.hid hq0
      have HQ1 := Lib.hid hq1
      have D0 := Lib.hid d0
      have D1 := Lib.hid (decide_eq_true b1)
      clear hq0 hq1 d0
      go_enter Try.func3, Try.ntmps3
      go_wp2_with fail
      refine hal.mono ?_
      rintro e w1 ⟨rfl, hb1⟩
      go_wp2_with fail
      refine (HQ0.out _ (h0.below hb1)).mono ?_
      rintro e w2 ⟨rfl, k, rfl⟩
      rw [D0.out]
      go_wp2_with fail
      refine (HQ1.out _ ((h1.below hb1).drewN k)).mono ?_
      rintro e w2 ⟨rfl, k2, rfl⟩
      rw [D1.out]
      go_wp2_with fail
      go_ret
      exact ⟨rfl, below_drewN hb1 _⟩
    · have HQ0 := Lib.hid hq0
      have HQ1 := Lib.hid hq1
      have D0 := Lib.hid d0
      have D1 := Lib.hid (decide_eq_false b1)
      have hn0 : n0 ≤ 4000 := by have := tot_len l0; have := h0.1; omega
      clear hq0 hq1 d0
      go_enter Try.func3, Try.ntmps3
      go_wp2_with fail
      refine hal.mono ?_
      rintro e w1 ⟨rfl, hb1⟩
      go_wp2_with fail
      refine (HQ0.out _ (h0.below hb1)).mono ?_
      rintro e w2 ⟨rfl, k, rfl⟩
      rw [D0.out]
      go_wp2_with fail
      refine (HQ1.out _ ((h1.below hb1).drewN k)).mono ?_
      rintro e w2 ⟨rfl, k2, rfl⟩
      rw [D1.out]
      obtain ⟨w2, hw2⟩ : ∃ w2, w2 = (w1.drewN k).drewN k2 := ⟨_, rfl⟩
      have hb2 : Below w.heap.size w w2 := by rw [hw2]; exact below_drewN (below_drewN hb1 _) _
      rw [← hw2]
      clear hw2 hb1 HQ0 HQ1 D0 D1 hal
      have hle := lent_any A0 n0 c0 w.heap.size l0 w2 (h0.below hb2) (by omega)
      go_wp2_with fail
      refine hle.mono ?_
      rintro e w3 ⟨r, cap, rfl, hown3, hb3⟩
      have hs2 := hb2.size
      have hs3 := hb3.size
      obtain ⟨A3, c3, hA, hlv3, hc31, hc32⟩ := Lv.of_own hown3
      injection hA with hA1 hA2 hA3
      subst hA1; subst hA3
      have hm4 := make_any (some ⟨r, 0, none⟩) n0 cap w3.heap.size l0 w3 (by have := hlv3.pre; rwa [h0.1] at this) (Nat.le_refl _)
      have hfr := own_frozen hown3 0
      have z1 : (0 : Int) ≤ (n0 : Int) := by omega
      have z2 : (n0 : Int) ≤ (cap : Int) := by omega
      have z3 : n0 ≤ cap := by omega
      have HE00 : True := trivial
      go_wp2_with fail
      obtain ⟨E0, hE0⟩ : ∃ E, E = mkE l0 := ⟨_, rfl⟩
      obtain ⟨m0, hm0⟩ : ∃ m, m = mkR l0 := ⟨_, rfl⟩
      obtain ⟨N0, hN0⟩ : ∃ N, N = m0.length := ⟨_, rfl⟩
      unfold MPost at hm4
      rw [← hE0, ← hm0, ← hN0] at hm4
      have hN0b : N0 ≤ 16 := by
        rw [hN0, hm0]; unfold mkR
        cases hk : mkL l0 with
        | none => simp
        | some m => have := mkL_small hk; simpa using this.2.1
      have HE0 := Lib.hid (And.intro hE0 hm0)
      have HN0 := Lib.hid hN0
      clear hE0 hm0 hN0
      refine hm4.mono ?_
      rintro e w4 ⟨v4, rfl, hown4, hb4⟩
      have hs4 := hb4.size
      obtain ⟨A4, c4, rfl, hlv4, hc41, hc42⟩ := Lv.of_own hown4
      have hm5 := make_any A1 n1 c1 w.heap.size l1 w4 (((h1.below hb2).below (hb3.mono hs2)).below (hb4.mono (by omega))) (by omega)
      obtain ⟨E1, hE1⟩ : ∃ E, E = mkE l1 := ⟨_, rfl⟩
      obtain ⟨m1, hm1⟩ : ∃ m, m = mkR l1 := ⟨_, rfl⟩
      obtain ⟨N1, hN1⟩ : ∃ N, N = m1.length := ⟨_, rfl⟩
      unfold MPost at hm5
      rw [← hE1, ← hm1, ← hN1] at hm5
      have hN1b : N1 ≤ 16 := by
        rw [hN1, hm1]; unfold mkR
        cases hk : mkL l1 with
        | none => simp
        | some m => have := mkL_small hk; simpa using this.2.1
      clear hE1 hm1 hN1
      go_wp2_with fail
      refine hm5.mono ?_
      rintro e w5 ⟨v5, rfl, hown5, hb5⟩
      have hs5 := hb5.size
      have hb45 : Below w3.heap.size w3 w5 := hb4.trans (hb5.mono hs4)
      obtain ⟨A5, c5, rfl, hlv5, hc51, hc52⟩ := Lv.of_own hown5
      have HLQ := Lib.hid (And.intro hlv4 hlv3)
      clear hm4 hm5 hle hlv5 hlv4 hlv3 hfr hown4
      go_wp2_with fail
      go_loopw [12] (fun i wr => ∃ (j : Nat) (xs : List Value), j ≤ N1 ∧ i = .int .i64 j ∧ wr.ownsRow w4.heap.size 30 2 (.slice A5 N1 c5) N1 xs ∧ Below w4.heap.size w4 wr) (fun i _ => N1 - (intOf i).toNat)
      case atStart => exact ⟨0, _, Nat.zero_le _, rfl, hown5, hb5⟩
      case round =>
        obtain ⟨j, xs, hj, rfl, ho, hbr⟩ := hrel
        clear hown5 hb5 hb45
        by_cases hlt : j < N1
        · obtain ⟨g, cap5, cur, hg, hgb, _⟩ := own_form ho (by omega)
          injection hg with hg1 hg2 hg3
          subst hg1; subst hg3
          have hf0 := own_frozen ho (j * 2)
          have hf1 := own_frozen ho (j * 2 + 1)
          have hxl := ho.1
          have hx0 := own_cellN ho (List.getElem?_eq_getElem (l := xs) (i := j * 2) (by omega))
          have hx1 := own_cellN ho (List.getElem?_eq_getElem (l := xs) (i := j * 2 + 1) (by omega))
          go_wp2_with fail
          go_roundw
          case rel => exact ⟨j + 1, _, by omega, by go_num, own_setN (own_setN ho _ _) _ _, (hbr.setCell (p := ⟨g, j * 2, none⟩) hgb _).setCell (p := ⟨g, j * 2 + 1, none⟩) hgb _⟩
          case measure => simp [intOf]; omega
        · obtain rfl : j = N1 := by omega
          have hsr := hbr.size
          have hbw : Below w.heap.size w wr := (hb2.trans (hb3.mono hs2)).trans ((hb4.mono (by omega)).trans (hbr.mono (by omega)))
          have hm6 := rmake_any A0 n0 c0 w.heap.size l0 wr (h0.below hbw) hbw.size
          unfold RPost at hm6
          rw [← HE0.out.1, ← HE0.out.2, ← HN0.out] at hm6
          have hl4 := HLQ.out.1.below hbr
          have hl3 : Lv wr w3.heap.size (some ⟨r, 0, none⟩) n0 l0 := by
            have := HLQ.out.2.pre.below (hb4.trans (hbr.mono hs4))
            rwa [h0.1] at this
          have hx := own_lab hown3 (k := n0) (x := dash) (by rw [List.getElem?_append_right (by rw [h0.1]; exact Nat.le_refl _), h0.1, Nat.sub_self]; rfl)
          have hrlt : r < w3.heap.size := (HLQ.out.2.2 (by omega)).elim fun b h => h.elim fun o h => by
            obtain ⟨h1, h2, _⟩ := h
            injection h1 with h1
            injection h1 with h1
            rw [h1]; exact h2
          have hx4 : wr.cell? ⟨r, n0 * 2, none⟩ = some (.string ⟨#[45]⟩) := ((hb4.trans (hbr.mono hs4)).cell (p := ⟨r, n0 * 2, none⟩) hrlt).trans hx.1
          have HX := Lib.hid hx4
          have HL := Lib.hid (And.intro hl4 hl3)
          have HBW := Lib.hid hbw
          clear hx hx4 hl4 hl3 hbr ho hown3
          go_wp2_with fail
          refine hm6.mono ?_
          rintro e w6 ⟨v6, rfl, hown6, hb6⟩
          have hs6 := hb6.size
          obtain ⟨A6, c6, rfl, hlv6, hc61, hc62⟩ := Lv.of_own hown6
          have hee : (E0 == E0) = true := by simp
          have hp0 : 0 < n0 + 1 := by omega
          have hq1 := same_any A4 A6 N0 c4 w4.heap.size c6 w6.heap.size m0 w6 (HL.out.1.below (hb6.mono (by omega))) hlv6 (by omega)
          have hq2 := fun k => same_any (some ⟨r, 0, none⟩) A0 n0 cap w3.heap.size c0 w.heap.size l0 (w6.drewN k) ((HL.out.2.below (hb6.mono (by omega))).drewN k) ((h0.below (HBW.out.trans (hb6.mono HBW.out.size))).drewN k) (by omega)
          have hx6 : w6.cell? ⟨r, n0 * 2, none⟩ = some (.string ⟨#[45]⟩) := (hb6.cell (p := ⟨r, n0 * 2, none⟩) (by simp; omega)).trans HX.out
          have e1 : ((⟨#[45]⟩ : ByteArray).toList == (⟨#[45]⟩ : ByteArray).toList) = true := by simp
          go_wp2_with fail
          refine (num12 _ _).mono ?_
          rintro e w7 ⟨rfl, hw7⟩
          rw [hw7]
          clear hw7 w7
          go_wp2_with fail
          refine hq1.mono ?_
          rintro e w7 ⟨rfl, k7, rfl⟩
          go_wp2_with fail
          refine (hq2 _).mono ?_
          rintro e w7 ⟨rfl, k8, rfl⟩
          go_wp2_with fail
          go_ret
          exact ⟨rfl, below_drewN (HBW.out.trans (hb6.mono HBW.out.size)) _⟩
set_option maxRecDepth 100000 in
theorem lifted (os : Os) (started : os.Started) (H : Type) (enc : TypeId × Value → H) :
    ReturnsInHanded {} Try.checked os 3 .any (Rows.labelsMakeSpec.pre6 enc Try.prog Try.f3 Rows.labelsMakeRow.domain false) (Rows.labelsMakeSpec.post enc Try.prog Try.f3 false true false false) := by
  refine returnsInHanded_of_change_sized (C := Try.checked) Try.own started (by kernel_rfl) Try.func3
    (ChangeSpec.witness6 (enc := enc) (C := Try.checked) false ⟨#[], #[.slice none 0 0, .slice none 0 0], []⟩ 8 (by kernel_rfl) (by kernel_rfl) (by kernel_rfl) (by kernel_rfl)) ?_
  intro W base args ds gs before hval0 hW hcnd hwt0 _
  have hval : ∀ (j : Nat) t v, Try.f3.params[j]? = some t → args[j]? = some v → Value.okWide Try.prog W .any base t v := hval0
  have hwt : ∀ n ∈ DataW.weightsEach Try.prog (Try.f3.params.toList ++ Rows.labelsMakeSpec.plain.varTypes Try.prog) (ds ++ gs), n ≤ reachBytes := fun n hn => by
    have := List.all_eq_true.1 hwt0 n hn
    simpa using this
  have hW' := hW
  obtain ⟨p, q, hA0, hV, rfl, _, _⟩ := hW
  have hA : DataW.TrodAll enc Try.prog W 0 (fun _ => true) true Try.f3.params.toList args.toList ds p := hA0
  rw [Try.params3] at hA hval hwt
  obtain ⟨v0, vs0, d0, ds0, p0, q0, hargs, rfl, rfl, h0, r0⟩ := trodAll_cons hA
  obtain ⟨v1, vs1, d1, ds1, p1, q1, rfl, rfl, rfl, h1, r1⟩ := trodAll_cons r0
  obtain ⟨rfl, rfl, rfl⟩ := trodAll_nil r1
  obtain rfl : args = #[v0, v1] := by cases args; simp_all
  obtain ⟨rfl, rfl⟩ := trodVars_none hV
  have hlt : ∀ x, (x ∈ p0 ∨ x ∈ p1) → x.block < W.heap.size := fun x hx => hW'.lt x (by simpa using hx)
  obtain ⟨A0, n0, c0, l0, rfl, rd0, hnc0, hcm0, ft0⟩ := open_lv Try.underlying22 (hval 0 22 v0 rfl rfl) h0 (fun x hx => hlt x (by simp [hx])) (fun n hn => hwt n (DataW.weights_mem_each (j := 0) rfl rfl n hn))
  obtain ⟨A1, n1, c1, l1, rfl, rd1, hnc1, hcm1, ft1⟩ := open_lv Try.underlying22 (hval 1 22 v1 rfl rfl) h1 (fun x hx => hlt x (by simp [hx])) (fun n hn => hwt n (DataW.weights_mem_each (j := 1) rfl rfl n hn))
  refine (walk A0 A1 n0 c0 n1 c1 l0 l1 W rd0 rd1 ft0 ft1).mono fun e W' ⟨he, hb⟩ => ?_
  subst he
  exact ⟨_, rfl, law_post Try.laidOut (by kernel_rfl) rfl rfl Try.underlying4 hW' ⟨rfl, rfl, rfl⟩ hb⟩

theorem over : Rows.labelsMakeRow.holds Try.pinned (OpenSpec.ofChange Rows.labelsMakeSpec) :=
  OpenClaim.holds_of_wide 3 Try.f3 rfl rfl rfl rfl rfl rfl rfl ⟨rfl, rfl, rfl, rfl, rfl⟩ rfl rfl rfl rfl rfl (by kernel_rfl) Try.func3 (by kernel_rfl)
    (of_decide_eq_true (by kernel_rfl)) (by unfold Func.isWrapper; first | (rw [if_pos (by decide +kernel)]; kernel_rfl) | (rw [if_neg (by decide +kernel)]; exact ⟨rfl, rfl⟩))
    (fun os started H enc _ => lifted os started H enc)

/-- THE STATEMENT. -/
theorem proved : Rows.LabelsMakeSaid :=
  over
end Go.Proofs.Ytlicnadbccjbjaa.labelsMake
