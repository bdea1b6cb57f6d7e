/- The greatest of the plans that are on is told, at every time, and none counts at its end. Without conditions. -/
import Derived.Test.YtghklmhmhekjgaaOpenP
import Derived.Test.YtghklmhmhekjgaaRows
import Derived.Test.YtghklmhmhekjgaaChecked
namespace Go.Proofs.Ytghklmhmhekjgaa.plansActive
open Go.ChangeShapes Go.WideShapes Go.ChangeAt Go.RowKit Go.Deep

theorem act_comm (now : Int) : ∀ (a : Int) (x y : Pl), actS now (actS now a x) y = actS now (actS now a y) x := by
  intro a x y
  unfold actS
  by_cases h1 : x.f ≤ now ∧ now < x.t <;> by_cases h2 : y.f ≤ now ∧ now < y.t <;> simp only [h1, h2, if_true, if_false] <;> simp only [and_self, if_true, if_false]
  omega
theorem act_perm (now : Int) {L M : List Pl} (h : L.Perm M) : actv now L = actv now M := by
  unfold actv
  exact List.Perm.foldl_eq' h (fun x _ y _ z => act_comm now z x y) 0
theorem act_append (now : Int) (L : List Pl) (p : Pl) : actv now (L ++ [p]) = actS now (actv now L) p := by
  unfold actv
  rw [List.foldl_append]
  rfl
theorem insp_perm (p : Pl) : ∀ L : List Pl, (insp p L).Perm (p :: L)
  | [] => List.Perm.refl _
  | a :: r => by
    unfold insp
    split
    · exact List.Perm.refl _
    · exact ((insp_perm p r).cons a).trans (List.Perm.swap p a r)
theorem put_perm {p : Pl} {L : List Pl} (h : hasp p.nm L = false) : (putp p L).Perm (p :: L) := by
  unfold putp
  rw [delp_id h]
  exact insp_perm p L
theorem not_has {p : Pl} {L : List Pl} (h : ∀ q ∈ L, q.n.toList ≠ p.n.toList) : hasp p.nm L = false := by
  unfold hasp
  rw [List.any_eq_false]
  intro q hq
  have := h q hq
  rw [ByteArray.toList_eq, ByteArray.toList_eq] at this
  simpa [Pl.nm] using this

set_option maxRecDepth 100000 in
set_option maxHeartbeats 4000000 in
theorem walk (A0 : Option Addr) (n0 c0 : Nat) (now : Int) (l : List Pl) (w : World) (h0 : Pv w w.heap.size A0 n0 l) (f0 : FitP n0 l) :
    Calls Try.prog 3 #[.slice A0 n0 c0, .int .i64 now] w fun e w' => e = .returned (.bool true) ∧ Below w.heap.size w w' := by
  have hal := alive7 w
  by_cases b0 : 60 < n0
  · have d0 : decide (60 < ((n0 : Nat) : Int)) = true := decide_eq_true (by omega)
    go_enter Try.func3, Try.ntmps3
    go_wp2_with fail
    refine hal.mono ?_
    rintro e w1 ⟨rfl, hb1⟩
    go_wp2_with fail
    go_ret
    exact ⟨rfl, hb1⟩
  · have d0 : decide (60 < ((n0 : Nat) : Int)) = false := decide_eq_false (by omega)
    have hn0 : n0 ≤ 60 := by omega
    go_enter Try.func3, Try.ntmps3
    go_wp2_with fail
    refine hal.mono ?_
    rintro e w1 ⟨rfl, hb1⟩
    have hnw := new8 w1
    clear hal
    go_wp2_with fail
    refine hnw.mono ?_
    rintro e w2 ⟨rfl, hT2, hb2⟩
    clear hnw
    have hb2' : Below w.heap.size w w2 := hb1.trans (hb2.mono hb1.size)
    have hs1 := hb1.size
    have hlt2 := hT2.lt
    have HB1 := Lib.hid (And.intro hb1 hb2)
    clear hb1 hb2
    obtain ⟨T, hTe⟩ : ∃ T, T = w1.heap.size + 1 := ⟨_, rfl⟩
    obtain ⟨b, hbe⟩ : ∃ b, b = w1.heap.size := ⟨_, rfl⟩
    rw [← hTe, ← hbe] at hT2
    rw [← hTe]
    have hTb : w.heap.size ≤ b ∧ w.heap.size ≤ T := by omega
    clear hTe hbe HB1 hlt2 hs1
    go_wp2_with fail
    go_loopw [7, 8] (fun want i wr => ∃ (k : Nat) (M : List Pl), k ≤ n0 ∧ i = .int .i64 k ∧ want = .int .i64 (actv now M) ∧ M.Perm (l.take k) ∧ Tb wr T b M ∧ Below w.heap.size w wr) (fun _ i _ => n0 - (intOf i).toNat)
    case atStart => exact ⟨0, [], Nat.zero_le _, rfl, rfl, List.Perm.refl _, hT2, hb2'⟩
    case round =>
      obtain ⟨k, M, hk, rfl, rfl, hperm, hT, hbr⟩ := hrel
      clear hT2 hb2'
      by_cases hlt : k < n0
      · obtain ⟨b1, off, rfl, hb1lt, hcs⟩ := (h0.below hbr).at4 hlt
        have hkl : k < l.length := by have := h0.1; omega
        obtain ⟨p, hp⟩ : ∃ p, l[k]? = some p := ⟨_, List.getElem?_eq_getElem hkl⟩
        obtain ⟨g0, g1, g2, g3⟩ := hcs k p hp
        have hps : p.n.size ≤ 1000000000000000 := (f0.2 p (List.mem_of_getElem? hp)).1
        obtain ⟨n, f, t, r⟩ := p
        simp only at g0 g1 g2 g3 hps
        have hck := fun W => rcheck9 n f t r W hps
        unfold CPost at hck
        have HCK := Lib.hid hck
        have HP := Lib.hid hp
        have HCS := Lib.hid hcs
        clear hck hp hcs
        go_wp2_with fail
        refine (HCK.out _).mono ?_
        rintro e w3 ⟨rfl, hb3⟩
        have hbx : Below wr.heap.size wr w3 := ((Below.refl _ wr).alloc (Nat.le_refl _) _).trans (hb3.mono (by simp))
        have hA : Arr w3 wr.heap.size 27 #[.string n, .int .i64 f, .int .i64 t, .int .i64 r] := (Arr.new wr 27 _).below hb3 (by simp)
        have hbw3 : Below w.heap.size w w3 := hbr.trans (hbx.mono hbr.size)
        have hT3 := hT.below hbx hT.lt.1 hT.lt.2
        have hsr := hbr.size
        have hTlt := hT.lt
        have hBp := hA.lt
        have HB3 := Lib.hid hbw3
        clear hb3
        rcases chk_cases n f t r with ⟨hok, hce⟩ | ⟨hok, hce⟩
        · rw [hce]
          have HOK := Lib.hid hok
          clear hok hce
          have HX := Lib.hid (And.intro hbx (And.intro hA hT3))
          clear hbx hA hT3 hbw3 hT g0 g1 g2 g3
          go_wp2_with fail
          generalize hwo : wr = wo at *
          clear hwo
          go_loopw [10] (fun j wr => ∃ i : Nat, i ≤ k ∧ j = .int .i64 i ∧ Below w3.heap.size w3 wr ∧ ∀ z x, z < i → l[z]? = some x → x.n.toList ≠ n.toList) (fun j _ => k - (intOf j).toNat)
          case atStart => exact ⟨0, Nat.zero_le _, rfl, Below.refl _ _, fun z x hz => by omega⟩
          case round =>
            obtain ⟨i, hi, rfl, hbq, hne⟩ := hrel
            obtain ⟨hbx, hA, hT3⟩ := HX.out
            by_cases hik : i < k
            · obtain ⟨x, hx⟩ : ∃ x, l[i]? = some x := ⟨_, List.getElem?_eq_getElem (by omega)⟩
              have q0 : wr.cell? ⟨b1, off + i * 4, none⟩ = some (.string x.n) := (hbq.cell (p := ⟨b1, off + i * 4, none⟩) (by show b1 < w3.heap.size; omega)).trans ((hbx.cell (p := ⟨b1, off + i * 4, none⟩) (by show b1 < wo.heap.size; omega)).trans (HCS.out i x hx).1)
              have q1 : wr.cell? ⟨wo.heap.size, 0, none⟩ = some (.string n) := (hA.below hbq hBp).at_ rfl
              obtain ⟨xn, hxn⟩ : ∃ xn, xn = x.n := ⟨_, rfl⟩
              rw [← hxn] at q0
              have HXN := Lib.hid (And.intro hxn hx)
              have HNE := Lib.hid hne
              have HQ := Lib.hid hbq
              have hin : i < n0 := by omega
              clear hxn hx hne hbq hA hT3 hbx
              cases hq : (xn.toList == n.toList)
              · go_wp2_with fail
                go_quiet (fail)
                go_wp2_with fail
                go_roundw
                case rel =>
                  refine ⟨i + 1, by omega, by go_num, below_drewN HQ.out _, fun z y hz hy => ?_⟩
                  by_cases hzi : z = i
                  · subst hzi
                    rw [HXN.out.2] at hy
                    injection hy with hy
                    rw [← hy, ← HXN.out.1]
                    intro e
                    rw [e] at hq
                    simp at hq
                  · exact HNE.out z y (by omega) hy
                case measure => simp [intOf]; omega
              · go_wp2_with fail
                go_quiet (fail)
                go_wp2_with fail
                go_ret
                exact ⟨rfl, HB3.out.trans (below_drewN (HQ.out.mono HB3.out.size) _)⟩
            · obtain rfl : k = i := by omega
              have hlen : M.length = k := by rw [hperm.length_eq, List.length_take]; omega
              have hno : hasp n.data.toList M = false := by
                refine not_has (p := ⟨n, f, t, r⟩) fun q hq => ?_
                obtain ⟨z, hz⟩ := List.mem_iff_getElem?.1 (hperm.mem_iff.1 hq)
                rw [List.getElem?_take] at hz
                split at hz
                · exact hne z q (by assumption) hz
                · cases hz
              have hTr := hT3.below hbq hT3.lt.1 hT3.lt.2
              have hAr := hA.below hbq hBp
              have hp10 := put10 T b n f t r M wr hTr (by have := HOK.out.2.2.1; omega) (by omega)
              have e1 : putE ⟨n, f, t, r⟩ M = 0 := by unfold putE; rw [if_pos HOK.out, if_neg (fun h => by omega)]
              have e2 : putL ⟨n, f, t, r⟩ M = putp ⟨n, f, t, r⟩ M := by unfold putL; rw [if_pos HOK.out, if_neg (fun h => by omega)]
              unfold PPost at hp10
              rw [e1, e2] at hp10
              have a0 : wr.cell? ⟨wo.heap.size, 0, none⟩ = some (.string n) := hAr.at_ rfl
              have a1 : wr.cell? ⟨wo.heap.size, 1, none⟩ = some (.int .i64 f) := hAr.at_ rfl
              have a2 : wr.cell? ⟨wo.heap.size, 2, none⟩ = some (.int .i64 t) := hAr.at_ rfl
              have a3 : wr.cell? ⟨wo.heap.size, 3, none⟩ = some (.int .i64 r) := hAr.at_ rfl
              have hbwr : Below w.heap.size w wr := HB3.out.trans (hbq.mono HB3.out.size)
              have hblt : b < wo.heap.size := hTlt.2
              have HR := Lib.hid (And.intro hbwr (And.intro hblt hAr))
              have HN := Lib.hid hno
              have hperm1 : (putp ⟨n, f, t, r⟩ M).Perm (l.take (k + 1)) := by
                rw [List.take_add_one, HP.out]
                exact ((put_perm (p := ⟨n, f, t, r⟩) hno).trans (hperm.cons _)).trans (List.perm_append_singleton _ _).symm
              have hact : actv now (putp ⟨n, f, t, r⟩ M) = actS now (actv now M) ⟨n, f, t, r⟩ := by
                rw [act_perm now (put_perm (p := ⟨n, f, t, r⟩) hno), ← act_append]
                exact act_perm now (List.perm_append_singleton _ _).symm
              have HPE := Lib.hid (And.intro hperm1 hact)
              obtain ⟨v, hv⟩ : ∃ v, v = actv now M := ⟨_, rfl⟩
              have HV := Lib.hid hv
              rw [← hv]
              clear hv hact hperm1 hno hbwr hAr hTr e1 e2 hne hbq hbx hA hT3 hlen hblt
              go_wp2_with fail
              refine hp10.mono ?_
              rintro e w4 ⟨rfl, hT4, hk4⟩
              obtain ⟨hbwr, hblt, hAr⟩ := HR.out
              have hA4 := hAr.kp hk4 (by omega)
              have hb4 : Below w.heap.size w w4 := hbwr.trans (hk4.below hbwr.size (fun x hx e => by omega))
              have c1 : w4.cell? ⟨wo.heap.size, 1, none⟩ = some (.int .i64 f) := hA4.at_ rfl
              have c2 : w4.cell? ⟨wo.heap.size, 2, none⟩ = some (.int .i64 t) := hA4.at_ rfl
              have c3 : w4.cell? ⟨wo.heap.size, 3, none⟩ = some (.int .i64 r) := hA4.at_ rfl
              have HT4 := Lib.hid (And.intro hT4 hb4)
              clear hT4 hb4 hA4 hk4 hbwr hblt hAr a0 a1 a2 a3 hp10
              go_wp2_with fail
              refine (num11 _ _).mono ?_
              rintro e w5 ⟨rfl, hw5⟩
              rw [hw5]
              clear hw5 w5
              by_cases d1 : f ≤ now
              · by_cases d2 : now < t
                · by_cases d3 : v < r
                  · have D1 : decide (f ≤ now) = true := decide_eq_true d1
                    have D2 : decide (now < t) = true := decide_eq_true d2
                    have D3 : decide (v < r) = true := decide_eq_true d3
                    have hr : r = actv now (putp ⟨n, f, t, r⟩ M) := by
                      rw [HPE.out.2, ← HV.out]; unfold actS; rw [if_pos ⟨d1, d2⟩]; show r = max v r; omega
                    have HRE := Lib.hid hr
                    clear hr
                    go_wp2_with fail
                    go_roundw
                    case rel => exact ⟨k + 1, _, by omega, by go_num, by rw [← HRE.out], HPE.out.1, HT4.out.1, HT4.out.2⟩
                    case measure => simp [intOf]; omega
                  · have D1 : decide (f ≤ now) = true := decide_eq_true d1
                    have D2 : decide (now < t) = true := decide_eq_true d2
                    have D3 : decide (v < r) = false := decide_eq_false d3
                    have hr : v = actv now (putp ⟨n, f, t, r⟩ M) := by
                      rw [HPE.out.2, ← HV.out]; unfold actS; rw [if_pos ⟨d1, d2⟩]; show v = max v r; omega
                    have HRE := Lib.hid hr
                    clear hr
                    go_wp2_with fail
                    go_roundw
                    case rel => exact ⟨k + 1, _, by omega, by go_num, by rw [← HRE.out], HPE.out.1, HT4.out.1, HT4.out.2⟩
                    case measure => simp [intOf]; omega
                · have D1 : decide (f ≤ now) = true := decide_eq_true d1
                  have D2 : decide (now < t) = false := decide_eq_false d2
                  have hr : v = actv now (putp ⟨n, f, t, r⟩ M) := by
                    rw [HPE.out.2, ← HV.out]; unfold actS; rw [if_neg (fun h => d2 h.2)]
                  have HRE := Lib.hid hr
                  clear hr
                  go_wp2_with fail
                  go_roundw
                  case rel => exact ⟨k + 1, _, by omega, by go_num, by rw [← HRE.out], HPE.out.1, HT4.out.1, HT4.out.2⟩
                  case measure => simp [intOf]; omega
              · have D1 : decide (f ≤ now) = false := decide_eq_false d1
                have hr : v = actv now (putp ⟨n, f, t, r⟩ M) := by
                  rw [HPE.out.2, ← HV.out]; unfold actS; rw [if_neg (fun h => d1 h.1)]
                have HRE := Lib.hid hr
                clear hr
                go_wp2_with fail
                go_roundw
                case rel => exact ⟨k + 1, _, by omega, by go_num, by rw [← HRE.out], HPE.out.1, HT4.out.1, HT4.out.2⟩
                case measure => simp [intOf]; omega
        · rw [hce]
          clear hok hce
          go_wp2_with fail
          go_ret
          exact ⟨rfl, HB3.out⟩
      · obtain rfl : k = n0 := by omega
        have hlen : M.length ≤ 1000 := by rw [hperm.length_eq, List.length_take]; omega
        have ha := active12 T b now M wr hT hlen
        have e0 : (actv now M == actv now M) = true := by simp
        obtain ⟨v, hv⟩ : ∃ v, v = actv now M := ⟨_, rfl⟩
        rw [← hv] at ha e0 ⊢
        have HB := Lib.hid hbr
        clear hv hbr
        go_wp2_with fail
        refine ha.mono ?_
        rintro e w6 ⟨rfl, hb6⟩
        go_wp2_with fail
        go_ret
        exact ⟨rfl, HB.out.trans (hb6.mono HB.out.size)⟩

set_option maxRecDepth 100000 in
theorem lifted (os : Os) (started : os.Started) (H : Type) (enc : TypeId × Value → H) :
    ReturnsInHanded {} Try.checked os 3 .any (Rows.plansActiveSpec.pre6 enc Try.prog Try.f3 Rows.plansActiveRow.domain false) (Rows.plansActiveSpec.post enc Try.prog Try.f3 false true false false) := by
  refine returnsInHanded_of_change_sized (C := Try.checked) Try.own started (by kernel_rfl) Try.func3
    (ChangeSpec.witness6 (enc := enc) (C := Try.checked) false ⟨#[], #[.slice none 0 0, .int .i64 0], []⟩ 8 (by kernel_rfl) (by kernel_rfl) (by kernel_rfl) (by kernel_rfl)) ?_
  intro W base args ds gs before hval0 hW hcnd hwt0 _
  have hval : ∀ (j : Nat) t v, Try.f3.params[j]? = some t → args[j]? = some v → Value.okWide Try.prog W .any base t v := hval0
  have hwt : ∀ n ∈ DataW.weightsEach Try.prog (Try.f3.params.toList ++ Rows.plansActiveSpec.plain.varTypes Try.prog) (ds ++ gs), n ≤ reachBytes := fun n hn => by
    have := List.all_eq_true.1 hwt0 n hn
    simpa using this
  have hW' := hW
  obtain ⟨p, q, hA0, hV, rfl, _, _⟩ := hW
  have hA : DataW.TrodAll enc Try.prog W 0 (fun _ => true) true Try.f3.params.toList args.toList ds p := hA0
  rw [Try.params3] at hA hval hwt
  obtain ⟨v0, vs0, d0, ds0, p0, q0, hargs, rfl, rfl, h0, r0⟩ := trodAll_cons hA
  obtain ⟨v1, vs1, d1, ds1, p1, q1, rfl, rfl, rfl, h1, r1⟩ := trodAll_cons r0
  obtain ⟨rfl, rfl, rfl⟩ := trodAll_nil r1
  obtain rfl : args = #[v0, v1] := by cases args; simp_all
  obtain ⟨rfl, rfl⟩ := trodVars_none hV
  have hlt : ∀ x, (x ∈ p0 ∨ x ∈ p1) → x.block < W.heap.size := fun x hx => hW'.lt x (by simpa using hx)
  obtain ⟨A0, n0, c0, l0, rfl, rd0, hnc0, hcm0, ft0⟩ := open_pv Try.underlying22 (hval 0 22 v0 rfl rfl) h0 (fun x hx => hlt x (by simp [hx])) (fun n hn => hwt n (DataW.weights_mem_each (j := 0) rfl rfl n hn))
  obtain ⟨now, rfl⟩ := okWide_int Try.underlying3 (hval 1 3 v1 rfl rfl)
  refine (walk A0 n0 c0 now l0 W rd0 ft0).mono fun e W' ⟨he, hb⟩ => ?_
  subst he
  exact ⟨_, rfl, law_post Try.laidOut (by kernel_rfl) rfl rfl Try.underlying4 hW' ⟨rfl, rfl, rfl⟩ hb⟩

theorem over : Rows.plansActiveRow.holds Try.pinned (OpenSpec.ofChange Rows.plansActiveSpec) :=
  OpenClaim.holds_of_wide 3 Try.f3 rfl rfl rfl rfl rfl rfl rfl ⟨rfl, rfl, rfl, rfl, rfl⟩ rfl rfl rfl rfl rfl (by kernel_rfl) Try.func3 (by kernel_rfl)
    (of_decide_eq_true (by kernel_rfl)) (by unfold Func.isWrapper; first | (rw [if_pos (by decide +kernel)]; kernel_rfl) | (rw [if_neg (by decide +kernel)]; exact ⟨rfl, rfl⟩))
    (fun os started H enc _ => lifted os started H enc)

/-- THE STATEMENT. -/
theorem proved : Rows.PlansActiveSaid :=
  over
end Go.Proofs.Ytghklmhmhekjgaa.plansActive
