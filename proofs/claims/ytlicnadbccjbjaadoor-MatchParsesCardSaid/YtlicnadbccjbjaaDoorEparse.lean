/- What match.Parse answers. Conditions: texts of at most 10^6 bytes; the error that is told lies where it was laid. -/
import Derived.Test.YtlicnadbccjbjaaDoorErparse
import Derived.WalkMore
import Derived.ScopeJumps
import Derived.Deep.CutBlock
namespace Go.Proofs.YtlicnadbccjbjaaDoor
open Go.RowKit LB

theorem cutG (R p : List UInt8) (w : World) : Calls Tryd.prog 40 #[.string (bs R), .string ⟨p.toArray⟩] w fun e w' => e = .returned (.tuple #[.string (bs (Lib.trimPrefix R p)), .bool (Lib.hasPrefix R p)]) ∧ w' = w := by
  have h := Tryd.strings_CutPrefix (bs R) ⟨p.toArray⟩ w
  rw [bs_data] at h
  have e : (⟨p.toArray⟩ : ByteArray).data.toList = p := by simp
  rw [e] at h
  exact h
def boolN (v : Value) : Nat := match v with | .bool true => 1 | _ => 0
theorem kinds_at (j : Nat) (h : j = 0 ∨ j = 1 ∨ j = 2) (W : World) : (Instr.index 73 (.agg #[.int .i64 1, .int .i64 2, .int .i64 3]) (.int .i64 (j : Int))).run Tryd.prog W = .ok (.int .i64 ((j : Int) + 1)) W := by
  rcases h with rfl | rfl | rfl <;> kernel_rfl

theorem kind_is {R : List UInt8} {j : Nat} (hj : j < 3) (hno : ∀ t : Nat, t < j → Lib.hasPrefix R (signL ((t : Int) + 1)) = false) (hy : Lib.hasPrefix R (signL ((j : Int) + 1)) = true) : kindL R = (j : Int) + 1 := by
  unfold kindL
  match j, hj, hno, hy with
  | 0, _, _, hy =>
    have h0 : Lib.hasPrefix R [61] = true := hy
    rw [if_pos h0]; rfl
  | 1, _, hno, hy =>
    have h0 : Lib.hasPrefix R [61] = false := hno 0 (by omega)
    have h1 : Lib.hasPrefix R [33, 61] = true := hy
    rw [if_neg (by rw [h0]; decide), if_pos h1]; rfl
  | 2, _, hno, hy =>
    have h0 : Lib.hasPrefix R [61] = false := hno 0 (by omega)
    have h1 : Lib.hasPrefix R [33, 61] = false := hno 1 (by omega)
    have h2 : Lib.hasPrefix R [94, 61] = true := hy
    rw [if_neg (by rw [h0]; decide), if_neg (by rw [h1]; decide), if_pos h2]; rfl
theorem kind_no {R : List UInt8} (hno : ∀ t : Nat, t < 3 → Lib.hasPrefix R (signL ((t : Int) + 1)) = false) : kindL R = 4 :=
  kind_none (hno 0 (by omega)) (hno 1 (by omega)) (hno 2 (by omega))

set_option maxRecDepth 100000 in
set_option maxHeartbeats 4000000 in
theorem mparse21 (s : ByteArray) (ea : Addr) (w : World) (hs : s.size ≤ 1000000) (he : w.cell? ⟨0, 0, none⟩ = some (errV ea)) (h0 : 0 < w.heap.size) :
    Calls Tryd.prog 21 #[.string s] w (MPP w s.data.toList) := by
  obtain ⟨i0, hi, hz0, hz1, hz2⟩ := info_parts Tryd.info64
  have hst : s.toList = s.data.toList := ByteArray.toList_eq s
  have HEA := Lib.hid he
  clear he
  by_cases hstar : s.data.toList = [42]
  · have e1 : (s.toList == [42]) = true := by rw [hst, hstar]; rfl
    have HS := Lib.hid hstar
    clear hstar hst
    go_enter Tryd.func21, Tryd.ntmps21
    go_wp2_with fail
    go_step3
    go_wp2_with fail
    rw [Exit.noGoto_ret]
    go_ret2
    exact mpp_star HS.out
  · have e1 : (s.toList == [42]) = false := by rw [hst, beq_eq_false_iff_ne]; exact hstar
    have HS := Lib.hid hstar
    clear hstar hst
    go_enter Tryd.func21, Tryd.ntmps21
    go_wp2_with fail
    refine wp_scope_jumps 0 (fun a2 w2 => (Below w.heap.size w w2 ∧ ∀ m, chkE m = 0 → mtextL m ≠ s.data.toList) ∧ ∃ u4 u5 u6 u7 u8 u9 u10 u11 u12 u13 u14 u15 u16 u17 u18 u19 u20 u21 u22 u23 u24 u25 u26 u27 u28 u29 u30 u31 u32 u33 u34 u35 u36 u37 u38 u39 u40 u41 u42 u43 u44 u45 u46 u47 u48 u49 u50 u51 u52 u53 u54 u55 u56 u57 u58 u59 u60 u61 u62 u63 u64 u65 u66 u67 u68 u69 u70 u71 u72 u73 : Value, a2 = { tmps := #[.string s, undef, .slice none 0 0, .int .i64 0, u4, u5, u6, u7, u8, u9, u10, u11, u12, u13, u14, u15, u16, u17, u18, u19, u20, u21, u22, u23, u24, u25, u26, u27, u28, u29, u30, u31, u32, u33, u34, u35, u36, u37, u38, u39, u40, u41, u42, u43, u44, u45, u46, u47, u48, u49, u50, u51, u52, u53, u54, u55, u56, u57, u58, u59, u60, u61, u62, u63, u64, u65, u66, u67, u68, u69, u70, u71, u72, u73], defers := [] }) (fun _ _ => 0) rfl ?first ?pass
    case pass =>
      rintro a2 w2 ⟨⟨hb2, hbad⟩, u4, u5, u6, u7, u8, u9, u10, u11, u12, u13, u14, u15, u16, u17, u18, u19, u20, u21, u22, u23, u24, u25, u26, u27, u28, u29, u30, u31, u32, u33, u34, u35, u36, u37, u38, u39, u40, u41, u42, u43, u44, u45, u46, u47, u48, u49, u50, u51, u52, u53, u54, u55, u56, u57, u58, u59, u60, u61, u62, u63, u64, u65, u66, u67, u68, u69, u70, u71, u72, u73, rfl⟩
      have HB := Lib.hid hbad
      clear hbad
      go_wp2_with fail
      show bodyPost Tryd.prog Tryd.f21 _ .ret _ _
      go_ret2
      exact mpp_no HB.out hb2
    case first =>
      go_wp2_with fail
      go_loopw [4, 5, 6] (fun v r o wr => ∃ (R : List UInt8) (more : Bool) (n : Nat) (l : List Mat), r = .string (bs R) ∧ o = .bool more ∧ n + (R.length + more.toNat) ≤ s.size + 1 ∧ Hid (l.length = n) ∧ wr.ownsRow w.heap.size 64 3 v n (mv l) ∧ Hid (MInv s.data.toList l R more) ∧ Below w.heap.size w wr) (fun _ r o _ => strLen r + boolN o)
      case atStart => exact ⟨s.data.toList, true, 0, [], by rw [bs_of], rfl, by simp, rfl, World.ownsRow_nil _ _ _ _, Lib.hid (minv_start _), Below.refl _ _⟩
      case round =>
        obtain ⟨R, more, n, l, rfl, rfl, hnR, hln, hown, hiv, hb⟩ := hrel
        obtain ⟨wo, rfl⟩ : ∃ wo : World, wo = wr := ⟨_, rfl⟩
        have hsz := hb.size
        obtain ⟨A5, c5, rfl, hmv5, hc51, hc52⟩ := Mv.of_own hown
        cases more with
        | false =>
          by_cases hR : R = []
          · have e5 : (bs R).toList.isEmpty = true := by rw [hR, bs_toList]; rfl
            have hq := mtext30 A5 n c5 _ l wo hmv5 (Nat.le_refl _)
            obtain ⟨T, hT⟩ : ∃ T, T = bs (mtextL l) := ⟨_, rfl⟩
            have et : (⟨(mtextL l).toArray⟩ : ByteArray) = T := hT.symm
            rw [et] at hq
            have HQ := Lib.hid hq
            have HFIN := Lib.hid (read_fin (minv_end hiv.out) HS.out)
            have hTS : (T.toList == s.toList) = decide (T = s) := eq_beq T s
            have hTT : T = s ↔ mtextL l = s.data.toList := by
              rw [hT]
              constructor
              · intro h; rw [← h, bs_data]
              · intro h; rw [h, bs_of]
            have HTT := Lib.hid hTT
            clear hq et hT hTT hmv5
            obtain ⟨BR, hBR⟩ : ∃ BR, BR = bs R := ⟨_, rfl⟩
            rw [← hBR] at e5 ⊢
            clear hBR hR
            by_cases hfin : T = s
            · have e2 : (T.toList == s.toList) = true := by rw [hTS, decide_eq_true hfin]
              by_cases hz : s.size = 0
              · have e3 : s.toList.isEmpty = true := by rw [(empty_iff s).1 hz, ByteArray.toList_eq]; rfl
                have HE := Lib.hid (empty_bad (S := s.data.toList) (List.eq_nil_of_length_eq_zero (by simpa using hz)))
                clear hfin hTS hz
                go_wp2_with fail
                refine HQ.out.mono ?_
                rintro e w9 ⟨rfl, hb9⟩
                have hbf := hb.trans (hb9.mono hsz)
                go_wp2_with fail
                go_step3
                go_wp2_with fail
                show bodyPost Tryd.prog Tryd.f21 _ .ret _ _
                go_ret2
                exact mpp_no HE.out hbf
              · have e3 := not_empty hz
                have HG := Lib.hid (HFIN.out.1 (HTT.out.1 hfin) (data_ne hz))
                have HOWN := Lib.hid hown
                clear hfin hTS hz hown
                go_wp2_with fail
                refine HQ.out.mono ?_
                rintro e w9 ⟨rfl, hb9⟩
                have hbf := hb.trans (hb9.mono hsz)
                go_wp2_with fail
                show bodyPost Tryd.prog Tryd.f21 _ .ret _ _
                go_ret2
                exact ⟨hbf, .inl ⟨_, l, rfl, by rw [hln.out]; exact own_kp HOWN.out (Kp.none_of_below (S := fun _ => False) hb9) (fun _ _ h => h), HG.out⟩⟩
            · have e2 : (T.toList == s.toList) = false := by rw [hTS, decide_eq_false hfin]
              have HE := Lib.hid (HFIN.out.2 (fun h => hfin (HTT.out.2 h)))
              clear hfin hTS
              go_wp2_with fail
              refine HQ.out.mono ?_
              rintro e w9 ⟨rfl, hb9⟩
              have hbf := hb.trans (hb9.mono hsz)
              go_wp2_with fail
              go_step3
              go_wp2_with fail
              show bodyPost Tryd.prog Tryd.f21 _ .ret _ _
              go_ret2
              exact mpp_no HE.out hbf
          · have e5 : (bs R).toList.isEmpty = false := by
              rw [bs_toList]
              cases R with
              | nil => exact absurd rfl hR
              | cons a r => rfl
            have HE := Lib.hid (bad_all (minv_rest hiv.out hR) HS.out)
            obtain ⟨BR, hBR⟩ : ∃ BR, BR = bs R := ⟨_, rfl⟩
            rw [← hBR] at e5 ⊢
            clear hBR hR
            go_wp2_with fail
            go_step3
            go_wp2_with fail
            show bodyPost Tryd.prog Tryd.f21 _ .ret _ _
            go_ret2
            exact mpp_no HE.out hb
        | true =>
          simp only [Bool.toNat_true] at hnR
          clear hmv5
          obtain ⟨wp, hwp⟩ : ∃ wp, wp = wo.alloc (.cells #[.int .i64 4, .string ⟨#[]⟩, .string ⟨#[]⟩] 64) := ⟨_, rfl⟩
          have hap : Arr wp wo.heap.size 64 #[.int .i64 4, .string ⟨#[]⟩, .string ⟨#[]⟩] := by rw [hwp]; exact Arr.new _ _ _
          have hbp : Below wo.heap.size wo wp := by rw [hwp]; exact (Below.refl _ wo).alloc (Nat.le_refl _) _
          have hwd := word39 (bs R) wp (by rw [bs_size]; omega)
          unfold WPost at hwd
          rw [bs_data] at hwd
          have hdl := drop_le R
          obtain ⟨N, hN⟩ : ∃ N, N = bs (R.takeWhile okB) := ⟨_, rfl⟩
          obtain ⟨R1, hR1⟩ : ∃ N, N = R.dropWhile okB := ⟨_, rfl⟩
          rw [← hN, ← hR1] at hwd
          rw [← hR1] at hdl
          have HWD := Lib.hid hwd
          have HNR := Lib.hid (And.intro hN hR1)
          have hsp := hbp.size
          clear hwd hN hR1
          go_upto_region 7 with fail
          rw [← hwp]
          clear hwp
          go_upto_block 2 with (go_at_call 39; refine HWD.out.mono ?_; rintro e w3 ⟨rfl, hb3⟩; have hap3 := hap.below hb3 hap.lt; have hfz := hap3.frozen 1; obtain ⟨y0, y1, y2⟩ := arr3_cells hap3)
          obtain ⟨wq, hwq⟩ : ∃ wq, wq = w3.setCell ⟨wo.heap.size, 1, none⟩ (.string N) := ⟨_, rfl⟩
          have haq : Arr wq wo.heap.size 64 #[.int .i64 4, .string N, .string ⟨#[]⟩] := by rw [hwq]; exact hap3.set 1 _
          have hbq : Below wo.heap.size wo wq := by rw [hwq]; exact (hbp.trans (hb3.mono hsp)).setCell (p := ⟨wo.heap.size, 1, none⟩) (Nat.le_refl _) _
          rw [← hwq]
          clear hwq hap hap3 hbp hb3 hfz y0 y1 y2 hsp
          go_cut [5] from 17 to 60 (fun s5 wx => ∃ (v R2 : List UInt8), Hid (valP R1 = some (v, R2)) ∧ R2.length ≤ R1.length ∧ s5 = .string (bs R2) ∧ Below wo.heap.size wo wx ∧ Arr wx wo.heap.size 64 #[.int .i64 (kindL R1), .string N, .string (bs v)])
          case first =>
            go_wp2_with fail
            go_loopw [5, 26] (fun r i wx => r = .string (bs R1) ∧ ∃ j : Nat, i = .int .i64 j ∧ j ≤ 3 ∧ Hid (∀ t : Nat, t < j → Lib.hasPrefix R1 (signL ((t : Int) + 1)) = false) ∧ wx = wq) (fun _ i _ => 3 - (intOf i).toNat)
            case atStart => exact ⟨rfl, 0, rfl, by omega, Lib.hid (fun t h => by omega), rfl⟩
            case round =>
              obtain ⟨rfl, j, rfl, hj3, hno, rfl⟩ := hrel
              by_cases hj : j < 3
              · have hix := kinds_at j (by omega)
                have d0 : decide ((j : Int) < 3) = true := decide_eq_true (by omega)
                have d1 : decide (j < 3) = true := decide_eq_true hj
                have hsg := sign42 ((j : Int) + 1) wr (by omega)
                have hct := cutG R1 (signL ((j : Int) + 1)) wr
                have hki := kind_is hj hno.out
                have hth := trim_le R1 (signL ((j : Int) + 1))
                obtain ⟨SG, hSG⟩ : ∃ SG, SG = signL ((j : Int) + 1) := ⟨_, rfl⟩
                rw [← hSG] at hsg hct hki hth
                obtain ⟨R2, hR2⟩ : ∃ R2, R2 = Lib.trimPrefix R1 SG := ⟨_, rfl⟩
                obtain ⟨O, hO⟩ : ∃ O, O = Lib.hasPrefix R1 SG := ⟨_, rfl⟩
                rw [← hR2, ← hO] at hct
                rw [← hO] at hki
                rw [← hR2] at hth
                obtain ⟨SB, hSB⟩ : ∃ SB : ByteArray, SB = ⟨SG.toArray⟩ := ⟨_, rfl⟩
                rw [← hSB] at hsg hct
                have HSG := Lib.hid hsg
                have HCT := Lib.hid hct
                have HO := Lib.hid (And.intro hSG (And.intro hR2 hO))
                have HKI := Lib.hid hki
                clear hsg hct hSG hR2 hO hSB hki
                cases O with
                | false =>
                  have HNO : Hid (∀ t : Nat, t < j + 1 → Lib.hasPrefix R1 (signL ((t : Int) + 1)) = false) := by
                    show ∀ t : Nat, t < j + 1 → _
                    intro t ht
                    by_cases e : t = j
                    · subst e; rw [← HO.out.1]; exact HO.out.2.2.symm
                    · exact hno.out t (by omega)
                  go_wp2_with fail
                  refine HSG.out.mono ?_
                  rintro e w4 ⟨rfl, hw4⟩; rw [hw4]; clear hw4 w4
                  go_wp2_with fail
                  refine HCT.out.mono ?_
                  rintro e w4 ⟨rfl, hw4⟩; rw [hw4]; clear hw4 w4
                  go_wp2_with fail
                  go_roundw
                  case rel => exact ⟨rfl, j + 1, by go_num, by omega, HNO, by trivial⟩
                  case measure => simp [intOf]; omega
                | true =>
                  have hkd := HKI.out rfl
                  have HKD := Lib.hid hkd
                  have hb4 : Below w.heap.size w wr := hb.trans (hbq.mono hsz)
                  have he4 : wr.cell? ⟨0, 0, none⟩ = some (errV ea) := (hb4.cell (p := ⟨0, 0, none⟩) h0).trans HEA.out
                  have huq := unq41 (bs R2) ea wr (by rw [bs_size]; omega) he4 (Nat.lt_of_lt_of_le h0 hb4.size)
                  unfold UPost at huq
                  rw [bs_data] at huq
                  have hvp : valP R1 = unqS R2 := by
                    unfold valP
                    rw [if_neg (by rw [hkd]; omega), hkd, ← HO.out.1, ← HO.out.2.1]
                  have HVP := Lib.hid hvp
                  clear hkd hvp
                  cases hu : unqS R2 with
                  | none =>
                    rw [hu] at huq
                    have HUQ := Lib.hid huq
                    have HE := Lib.hid (bad_all (minv_none hiv.out (by rw [← HNR.out.2, HVP.out, hu])) HS.out)
                    clear huq hu
                    go_wp2_with fail
                    refine HSG.out.mono ?_
                    rintro e w4 ⟨rfl, hw4⟩; rw [hw4]; clear hw4 w4
                    go_wp2_with fail
                    refine HCT.out.mono ?_
                    rintro e w4 ⟨rfl, hw4⟩; rw [hw4]; clear hw4 w4
                    go_wp2_with fail
                    refine HUQ.out.mono ?_
                    rintro e w4 ⟨hb5, rfl⟩
                    have hbf := hb4.trans (hb5.mono hb4.size)
                    go_wp2_with fail
                    go_step3
                    show _ ∧ _
                    exact ⟨rfl, ⟨hbf, HE.out⟩, _, _, _, _, _, _, _, _, _, _, _, _, _, _, _, _, _, _, _, _, _, _, _, _, _, _, _, _, _, _, _, _, _, _, _, _, _, _, _, _, _, _, _, _, _, _, _, _, _, _, _, _, _, _, _, _, _, _, _, _, _, _, _, _, _, _, _, _, _, _, rfl⟩
                  | some vr =>
                    obtain ⟨v, R3⟩ := vr
                    have hul := unqS_less hu
                    rw [hu] at huq
                    have HUQ := Lib.hid huq
                    have HVQ : Hid (valP R1 = some (v, R3)) := by
                      show _ = _
                      rw [HVP.out, hu]
                    clear huq hu
                    go_wp2_with fail
                    refine HSG.out.mono ?_
                    rintro e w4 ⟨rfl, hw4⟩; rw [hw4]; clear hw4 w4
                    go_wp2_with fail
                    refine HCT.out.mono ?_
                    rintro e w4 ⟨rfl, hw4⟩; rw [hw4]; clear hw4 w4
                    go_wp2_with fail
                    refine HUQ.out.mono ?_
                    rintro e w4 ⟨hb5, rfl⟩
                    have ha5 := haq.below hb5 haq.lt
                    have hfz := ha5.frozen 0
                    have hfz2 := ha5.frozen 2
                    obtain ⟨y0, y1, y2⟩ := arr3_cells ha5
                    have hbx := hbq.trans (hb5.mono hbq.size)
                    go_wp2_with fail
                    go_meet
                    case rel =>
                      refine ⟨v, R3, HVQ, by omega, rfl, (hbx.setCell (p := ⟨wo.heap.size, 0, none⟩) (Nat.le_refl _) _).setCell (p := ⟨wo.heap.size, 2, none⟩) (Nat.le_refl _) _, ?_⟩
                      rw [HKD.out]
                      exact (ha5.set 0 _).set 2 _
              · obtain rfl : j = 3 := by omega
                have hk4 := kind_no hno.out
                have HV4 : Hid (valP R1 = some ([], R1) ∧ kindL R1 = 4) := by
                  refine ⟨?_, hk4⟩
                  unfold valP; rw [if_pos hk4]
                clear hk4
                go_wp2_with fail
                go_meet
                case rel => exact ⟨[], R1, HV4.out.1, Nat.le_refl _, rfl, hbq, by rw [HV4.out.2]; exact haq⟩
          case rest =>
            obtain ⟨v, R2, hvp, hrl, hs5, hbx, hax⟩ := hcut
            subst hs5
            obtain ⟨wz, hwz⟩ : ∃ wz, wz = wc := ⟨_, rfl⟩
            rw [← hwz] at hbx hax ⊢
            clear hwz wc haq hbq
            have hst := minv_step hiv.out (by rw [← HNR.out.2]; exact hvp.out)
            rw [← HNR.out.2, ← HNR.out.1] at hst
            obtain ⟨D, hD⟩ : ∃ D, D = kindL R1 := ⟨_, rfl⟩
            obtain ⟨V, hV⟩ : ∃ V, V = bs v := ⟨_, rfl⟩
            rw [← hD, ← hV] at hst hax
            have HST := Lib.hid hst
            clear hst hD hV
            obtain ⟨y0, y1, y2⟩ := arr3_cells hax
            have hownz := own_kp hown (Kp.none_of_below (S := fun _ => False) hbx) (fun _ _ h => h)
            have HOWN := Lib.hid hown
            have hbw : Below w.heap.size w wz := hb.trans (hbx.mono hsz)
            have hsw := hbw.size
            have ht4 := trim_le R2 [44]
            have ht5 := trim_less (s := R2) (c := 44)
            have hct := fun W => cut40 R2 44 W
            obtain ⟨R3, hR3⟩ : ∃ R3, R3 = Lib.trimPrefix R2 [44] := ⟨_, rfl⟩
            obtain ⟨O3, hO3⟩ : ∃ R3, R3 = Lib.hasPrefix R2 [44] := ⟨_, rfl⟩
            simp only [← hR3, ← hO3] at hct
            rw [← hR3] at ht4 ht5
            rw [← hO3] at ht5
            have hm3 : R3.length + O3.toNat < R.length + 1 := by
              cases O3 with
              | false => simp; omega
              | true => have := ht5 rfl; simp; omega
            have HCT := Lib.hid hct
            obtain ⟨l8, hl8⟩ : ∃ l8, l8 = l ++ [(D, N, V)] := ⟨_, rfl⟩
            have HL8 := Lib.hid hl8
            have HST2 : Hid (MInv s.data.toList l8 R3 O3) := by
              have h := HST.out
              rw [← hl8, ← hR3, ← hO3] at h
              exact h
            have hln8 : Hid (l8.length = n + 1) := by show _ = _; rw [hl8, List.length_append, hln.out]; rfl
            clear hl8 hR3 hO3 HST hown hct ht4 ht5
            go_wp2_with (at_builtin; refine wpList_append_lies _ rfl (.tmp 52) (.tmp 54) 39 rfl w.heap.size 64 i0 _ 3 40 Tryd.underlying39 hi hz0 hz1 hz2 rfl (by decide) (.slice A5 n c5) n (mv l) rfl (hownz.alloc _) ⟨wz.heap.size, 0, none⟩ 1 1 [.int .i64 D, .string N, .string V] rfl rfl (news_row wz _ 64) (by simp [Value.oneCell']) (by omega) (by unfold maxLen; omega) (by omega) (by simp; omega) (wz.heap.size + 1) (by simp) ?_; intro r cap w8 hown8 hg8 hat8 hlt8)
            have HF : Hid (w8.ownsRow w.heap.size 64 3 (.slice (some ⟨r, 0, none⟩) (n + 1) cap) (n + 1) (mv l8) ∧ Below w.heap.size w w8) := by
              refine ⟨by rw [HL8.out, mv_append]; exact hown8, (hbw.alloc hsw _).grown hg8 (by simp; omega) (fun x hx => (HOWN.out.lt x hx).1)⟩
            clear hown8 hg8 hat8 hlt8 hownz
            go_wp2_with fail
            refine (HCT.out _).mono ?_
            rintro e w9 ⟨rfl, hw9⟩; rw [hw9]; clear hw9 w9
            go_wp2_with fail
            go_roundw
            case rel => exact ⟨R3, O3, n + 1, l8, rfl, rfl, by omega, hln8, HF.out.1, HST2, HF.out.2⟩
            case measure =>
              show (bs R3).size + boolN (.bool O3) < (bs R).size + 1
              rw [bs_size, bs_size]
              have : boolN (.bool O3) = O3.toNat := by cases O3 <;> rfl
              omega
end Go.Proofs.YtlicnadbccjbjaaDoor
