/- What the reference's ParseMatch answers. Conditions: texts of at most 10^6 bytes. -/
import Derived.Test.YtlicnadbccjbjaaDoorEkind
import Derived.Test.YtlicnadbccjbjaaDoorErtext
import Derived.Deep.CutRange
namespace Go.Proofs.YtlicnadbccjbjaaDoor
open Go.RowKit LB

theorem arr3_cells {w : World} {g : Nat} {t : TypeId} {x y z : Value} (h : Arr w g t #[x, y, z]) : w.cell? ⟨g, 0, none⟩ = some x ∧ w.cell? ⟨g, 1, none⟩ = some y ∧ w.cell? ⟨g, 2, none⟩ = some z :=
  ⟨h.at_ rfl, h.at_ rfl, h.at_ rfl⟩

theorem data_ne {s : ByteArray} (h : ¬ s.size = 0) : s.data.toList ≠ [] := by
  intro e
  have h1 : s.data.toList.length = 0 := by rw [e]; rfl
  have h2 : s.data.toList.length = s.size := by simp
  omega
theorem sgn_one {s : ByteArray} {m : Nat} {D : Int} {K : Nat} (h : sgn s m = (D, K)) : (K = 1 ↔ ∃ h : m < s.size, s[m].toNat = 61) ∧ (K = 1 → D = 1) := by
  unfold sgn at h
  by_cases hl : m < s.size
  · rw [dif_pos hl] at h
    by_cases h1 : s[m].toNat = 61
    · rw [if_pos h1] at h
      injection h with a b
      exact ⟨⟨fun _ => ⟨hl, h1⟩, fun _ => b.symm⟩, fun _ => a.symm⟩
    · rw [if_neg h1] at h
      have hK : K ≠ 1 := by
        intro e; subst e
        split at h
        · split at h
          · split at h
            · cases h
            · split at h <;> cases h
          · cases h
        · cases h
      exact ⟨⟨fun e => absurd e hK, fun ⟨_, e⟩ => absurd e h1⟩, fun e => absurd e hK⟩
  · rw [dif_neg hl] at h
    injection h with a b
    subst b
    exact ⟨⟨(fun e => by cases e), fun ⟨e, _⟩ => absurd e hl⟩, (fun e => by cases e)⟩
theorem sgn_two {s : ByteArray} {m : Nat} {D : Int} {K : Nat} (h : sgn s m = (D, K)) : (K = 2 ↔ ∃ h : m + 1 < s.size, s[m + 1].toNat = 61 ∧ (s[m].toNat = 33 ∨ s[m].toNat = 94)) ∧
    (K = 2 → ∃ h : m < s.size, (s[m].toNat = 33 ∧ D = 2) ∨ (s[m].toNat = 94 ∧ D = 3)) ∧ (K ≠ 2 → K ≠ 1 → K = 0 ∧ D = 4) := by
  unfold sgn at h
  by_cases hl : m < s.size
  · rw [dif_pos hl] at h
    by_cases h1 : s[m].toNat = 61
    · rw [if_pos h1] at h
      injection h with a b
      subst b
      exact ⟨⟨(fun e => by cases e), (fun ⟨_, _, e⟩ => by omega)⟩, (fun e => by cases e), fun _ e => absurd rfl e⟩
    · rw [if_neg h1] at h
      by_cases h2 : m + 1 < s.size
      · rw [dif_pos h2] at h
        by_cases h3 : s[m + 1].toNat = 61
        · rw [if_pos h3] at h
          by_cases h4 : s[m].toNat = 33
          · rw [if_pos h4] at h
            injection h with a b
            subst a; subst b
            exact ⟨⟨fun _ => ⟨h2, h3, .inl h4⟩, fun _ => rfl⟩, fun _ => ⟨hl, .inl ⟨h4, rfl⟩⟩, fun e => absurd rfl e⟩
          · rw [if_neg h4] at h
            by_cases h5 : s[m].toNat = 94
            · rw [if_pos h5] at h
              injection h with a b
              subst a; subst b
              exact ⟨⟨fun _ => ⟨h2, h3, .inr h5⟩, fun _ => rfl⟩, fun _ => ⟨hl, .inr ⟨h5, rfl⟩⟩, fun e => absurd rfl e⟩
            · rw [if_neg h5] at h
              injection h with a b
              subst a; subst b
              exact ⟨⟨(fun e => by cases e), (fun ⟨_, _, e⟩ => by omega)⟩, (fun e => by cases e), fun _ _ => ⟨rfl, rfl⟩⟩
        · rw [if_neg h3] at h
          injection h with a b
          subst a; subst b
          exact ⟨⟨(fun e => by cases e), fun ⟨_, e, _⟩ => absurd e h3⟩, (fun e => by cases e), fun _ _ => ⟨rfl, rfl⟩⟩
      · rw [dif_neg h2] at h
        injection h with a b
        subst a; subst b
        exact ⟨⟨(fun e => by cases e), fun ⟨e, _⟩ => absurd e h2⟩, (fun e => by cases e), fun _ _ => ⟨rfl, rfl⟩⟩
  · rw [dif_neg hl] at h
    injection h with a b
    subst a; subst b
    exact ⟨⟨(fun e => by cases e), (fun ⟨e, _⟩ => by omega)⟩, (fun e => by cases e), fun _ _ => ⟨rfl, rfl⟩⟩

set_option maxRecDepth 100000 in
set_option maxHeartbeats 4000000 in
theorem rmparse24 (s : ByteArray) (w : World) (hs : s.size ≤ 1000000) :
    Calls Tryd.prog 24 #[.string s] w (MPP w s.data.toList) := by
  obtain ⟨i0, hi, hz0, hz1, hz2⟩ := info_parts Tryd.info64
  have hst : s.toList = s.data.toList := ByteArray.toList_eq s
  by_cases hstar : s.data.toList = [42]
  · have e1 : (s.toList == [42]) = true := by rw [hst, hstar]; rfl
    have HS := Lib.hid hstar
    clear hstar hst
    go_enter Tryd.func24, Tryd.ntmps24
    go_wp2_with fail
    go_ret2
    exact mpp_star HS.out
  · have e1 : (s.toList == [42]) = false := by rw [hst, beq_eq_false_iff_ne]; exact hstar
    have HS := Lib.hid hstar
    clear hstar hst
    go_enter Tryd.func24, Tryd.ntmps24
    go_wp2_with fail
    go_loopw [4, 5] (fun i v wr => ∃ (k n : Nat) (l : List Mat), k ≤ s.size ∧ i = .int .i64 k ∧ n ≤ 9 ∧ Hid (l.length = n) ∧ wr.ownsRow w.heap.size 64 3 v n (mv l) ∧ Hid (MInv s.data.toList l (s.data.toList.drop k) true) ∧ Below w.heap.size w wr) (fun i _ _ => s.size - (intOf i).toNat)
    case atStart => exact ⟨0, 0, [], by omega, rfl, by omega, rfl, World.ownsRow_nil _ _ _ _, Lib.hid (minv_start _), Below.refl _ _⟩
    case round =>
      obtain ⟨k, n, l, hk, rfl, hn9, hln, hown, hiv, hb⟩ := hrel
      have hsz := hb.size
      obtain ⟨A5, c5, rfl, hmv5, hc51, hc52⟩ := Mv.of_own hown
      by_cases h8 : n ≤ 8
      · have d0 : decide ((n : Int) ≤ 8) = true := decide_eq_true (by omega)
        have d1 : decide (n ≤ 8) = true := decide_eq_true h8
        have hwd := word32 s k wr hk hs
        have hdl := word_le hk
        have hwe := word_drop (s := s) (k := k)
        obtain ⟨N, hN⟩ : ∃ N : ByteArray, N = bs ((s.data.toList.drop k).takeWhile okB) := ⟨_, rfl⟩
        rw [← hN] at hwd
        have hNs : ((s.data.toList.drop k).takeWhile okB).length = N.size := by rw [hN, bs_size]
        rw [hNs] at hdl hwe
        obtain ⟨m, hm⟩ : ∃ m, m = k + N.size := ⟨_, rfl⟩
        have hmi : (k : Int) + (N.size : Int) = (m : Int) := by omega
        rw [← hm] at hdl hwe
        have HWD := Lib.hid hwd
        have HNN := Lib.hid hN
        have HWE := Lib.hid hwe
        have hkm : k ≤ m := by omega
        have hsp := sgn_spec s m
        obtain ⟨D, K, hDK⟩ : ∃ D K, sgn s m = (D, K) := ⟨_, _, rfl⟩
        rw [hDK] at hsp
        dsimp only at hsp
        have HSP := Lib.hid hsp
        clear hwd hN hwe hNs hm hsp hmv5
        obtain ⟨wp, hwp⟩ : ∃ wp, wp = wr.alloc (.cells #[.int .i64 4, .string N, .string ⟨#[]⟩] 64) := ⟨_, rfl⟩
        have hap : Arr wp wr.heap.size 64 #[.int .i64 4, .string N, .string ⟨#[]⟩] := by rw [hwp]; exact Arr.new _ _ _
        have hbp : Below wr.heap.size wr wp := by rw [hwp]; exact (Below.refl _ wr).alloc (Nat.le_refl _) _
        go_upto_region 9 with (go_at_call 32; refine HWD.out.mono ?_; rintro e w2 ⟨rfl, hw2⟩; rw [hw2]; clear hw2 w2)
        rw [← hwp]
        clear hwp
        obtain ⟨hK1, hD1⟩ := sgn_one hDK
        obtain ⟨hK2, hD2, hD4⟩ := sgn_two hDK
        have HK1 := Lib.hid hK1
        have HD1 := Lib.hid hD1
        have HK2 := Lib.hid hK2
        have HD2 := Lib.hid hD2
        have HD4 := Lib.hid hD4
        clear hK1 hD1 hK2 hD2 hD4 hDK
        go_upto_region 10 with fail
        go_cut [35] from 14 to 98 (fun s35 wx => s35 = .bool (decide (K = 1)) ∧ wx = wp)
        case first =>
          by_cases hl : m < s.size
          · have a0 : decide ((m : Int) < (s.size : Int)) = true := decide_eq_true (by omega)
            have a1 : decide (m < s.size) = true := decide_eq_true hl
            by_cases h61 : s[m].toNat = 61
            · have f1 : ((s[m].toNat : Int) == 61) = true := by rw [h61]; rfl
              have HR := Lib.hid (decide_eq_true (HK1.out.2 ⟨hl, h61⟩))
              clear h61
              go_wp2_with fail
              go_meet
              case rel => exact ⟨by rw [HR.out], rfl⟩
            · have f1 : ((s[m].toNat : Int) == 61) = false := by rw [beq_eq_false_iff_ne]; omega
              have HR := Lib.hid (decide_eq_false (p := K = 1) (fun e => by obtain ⟨_, h⟩ := HK1.out.1 e; exact h61 h))
              clear h61
              go_wp2_with fail
              go_meet
              case rel => exact ⟨by rw [HR.out], rfl⟩
          · have a0 : decide ((m : Int) < (s.size : Int)) = false := decide_eq_false (by omega)
            have a1 : decide (m < s.size) = false := decide_eq_false hl
            have HR := Lib.hid (decide_eq_false (p := K = 1) (fun e => by obtain ⟨h, _⟩ := HK1.out.1 e; exact hl h))
            go_wp2_with fail
            go_meet
            case rel => exact ⟨by rw [HR.out], rfl⟩
        case rest =>
        obtain ⟨rfl, rfl⟩ := hcut
        go_upto_if 35 with fail
        go_cut [8] from 14 to 98 (fun s8 wx => s8 = .int .i64 (if K = 1 then 1 else 0) ∧ Below wr.heap.size wr wx ∧ Arr wx wr.heap.size 64 #[.int .i64 (if K = 1 then 1 else 4), .string N, .string ⟨#[]⟩])
        case first =>
          have hfz := hap.frozen 0
          obtain ⟨y0, y1, y2⟩ := arr3_cells hap
          by_cases hK : K = 1
          · have a0 : decide (K = 1) = true := decide_eq_true hK
            have HKK := Lib.hid hK
            clear hK
            go_wp2_with fail
            go_meet
            case rel => exact ⟨by rw [if_pos HKK.out], hbp.setCell (p := ⟨wr.heap.size, 0, none⟩) (Nat.le_refl _) _, by rw [if_pos HKK.out]; exact hap.set 0 _⟩
          · have a0 : decide (K = 1) = false := decide_eq_false hK
            have HKK := Lib.hid hK
            clear hK
            go_wp2_with fail
            go_meet
            case rel => exact ⟨by rw [if_neg HKK.out], hbp, by rw [if_neg HKK.out]; exact hap⟩
        case rest =>
        obtain ⟨hs8, hbq, haq⟩ := hcut
        subst hs8
        obtain ⟨wq, hwq⟩ : ∃ wq, wq = wc := ⟨_, rfl⟩
        rw [← hwq] at hbq haq ⊢
        clear hwq wc
        obtain ⟨K1, hK1⟩ : ∃ K1 : Int, K1 = (if K = 1 then 1 else 0) := ⟨_, rfl⟩
        obtain ⟨D1, hD1⟩ : ∃ D1 : Int, D1 = (if K = 1 then 1 else 4) := ⟨_, rfl⟩
        rw [← hK1]
        rw [← hD1] at haq
        have HKD := Lib.hid (And.intro hK1 hD1)
        clear hK1 hD1 hap hbp
        go_upto_region 13 with fail
        go_cut [60] from 14 to 98 (fun s60 wx => s60 = .bool (decide (K = 2)) ∧ wx = wq)
        case first =>
          by_cases hl : m + 1 < s.size
          · have a0 : decide ((m : Int) + 1 < (s.size : Int)) = true := decide_eq_true (by omega)
            have a1 : decide (m + 1 < s.size) = true := decide_eq_true hl
            have hl0 : m < s.size := by omega
            by_cases h61 : s[m + 1].toNat = 61
            · have f1 : ((s[m + 1].toNat : Int) == 61) = true := by rw [h61]; rfl
              by_cases h33 : s[m].toNat = 33
              · have f2 : ((s[m].toNat : Int) == 33) = true := by rw [h33]; rfl
                have HR := Lib.hid (decide_eq_true (HK2.out.2 ⟨hl, h61, .inl h33⟩))
                clear h61 h33
                go_wp2_with fail
                go_meet
                case rel => exact ⟨by rw [HR.out], rfl⟩
              · have f2 : ((s[m].toNat : Int) == 33) = false := by rw [beq_eq_false_iff_ne]; omega
                by_cases h94 : s[m].toNat = 94
                · have f3 : ((s[m].toNat : Int) == 94) = true := by rw [h94]; rfl
                  have HR := Lib.hid (decide_eq_true (HK2.out.2 ⟨hl, h61, .inr h94⟩))
                  clear h61 h33 h94
                  go_wp2_with fail
                  go_meet
                  case rel => exact ⟨by rw [HR.out], rfl⟩
                · have f3 : ((s[m].toNat : Int) == 94) = false := by rw [beq_eq_false_iff_ne]; omega
                  have HR := Lib.hid (decide_eq_false (p := K = 2) (fun e => by obtain ⟨_, _, h⟩ := HK2.out.1 e; omega))
                  clear h61 h33 h94
                  go_wp2_with fail
                  go_meet
                  case rel => exact ⟨by rw [HR.out], rfl⟩
            · have f1 : ((s[m + 1].toNat : Int) == 61) = false := by rw [beq_eq_false_iff_ne]; omega
              have HR := Lib.hid (decide_eq_false (p := K = 2) (fun e => by obtain ⟨_, h, _⟩ := HK2.out.1 e; exact h61 h))
              clear h61
              go_wp2_with fail
              go_meet
              case rel => exact ⟨by rw [HR.out], rfl⟩
          · have a0 : decide ((m : Int) + 1 < (s.size : Int)) = false := decide_eq_false (by omega)
            have a1 : decide (m + 1 < s.size) = false := decide_eq_false hl
            have HR := Lib.hid (decide_eq_false (p := K = 2) (fun e => by obtain ⟨h, _⟩ := HK2.out.1 e; exact hl h))
            go_wp2_with fail
            go_meet
            case rel => exact ⟨by rw [HR.out], rfl⟩
        case rest =>
        obtain ⟨rfl, rfl⟩ := hcut
        go_upto_if 60 with fail
        go_cut [8] from 14 to 98 (fun s8 wx => s8 = .int .i64 (K : Int) ∧ Below wr.heap.size wr wx ∧ Arr wx wr.heap.size 64 #[.int .i64 D, .string N, .string ⟨#[]⟩])
        case first =>
          have hfz := haq.frozen 0
          obtain ⟨y0, y1, y2⟩ := arr3_cells haq
          by_cases hK : K = 2
          · have a0 : decide (K = 2) = true := decide_eq_true hK
            obtain ⟨hl, hh⟩ := HD2.out hK
            have HKK := Lib.hid hK
            clear hK
            rcases hh with ⟨h33, hd⟩ | ⟨h94, hd⟩
            · have f3 : ((s[m].toNat : Int) == 94) = false := by rw [h33]; rfl
              have HD := Lib.hid hd
              clear h33 hd
              go_wp2_with fail
              go_meet
              case rel => exact ⟨by rw [HKK.out]; rfl, hbq.setCell (p := ⟨wr.heap.size, 0, none⟩) (Nat.le_refl _) _, by rw [HD.out]; exact haq.set 0 _⟩
            · have f3 : ((s[m].toNat : Int) == 94) = true := by rw [h94]; rfl
              have HD := Lib.hid hd
              clear h94 hd
              go_wp2_with fail
              go_meet
              case rel => exact ⟨by rw [HKK.out]; rfl, (hbq.setCell (p := ⟨wr.heap.size, 0, none⟩) (Nat.le_refl _) _).setCell (p := ⟨wr.heap.size, 0, none⟩) (Nat.le_refl _) _, by rw [HD.out]; exact (haq.set 0 _).set 0 _⟩
          · have a0 : decide (K = 2) = false := decide_eq_false hK
            have HKK := Lib.hid hK
            clear hK
            go_wp2_with fail
            go_meet
            case rel =>
              by_cases h1 : K = 1
              · exact ⟨by rw [HKD.out.1, if_pos h1, h1]; rfl, hbq, by rw [HD1.out h1]; have := haq; rw [HKD.out.2, if_pos h1] at this; exact this⟩
              · obtain ⟨h0, h4⟩ := HD4.out HKK.out h1
                exact ⟨by rw [HKD.out.1, if_neg h1, h0]; rfl, hbq, by rw [h4]; have := haq; rw [HKD.out.2, if_neg h1] at this; exact this⟩
        case rest =>
        obtain ⟨hs8, hbx, hax⟩ := hcut
        subst hs8
        obtain ⟨wx, hwx⟩ : ∃ wx, wx = wc := ⟨_, rfl⟩
        rw [← hwx] at hbx hax ⊢
        clear hwx wc haq hbq HKD
        go_upto_if 68 with fail
        obtain ⟨hkind, hsg⟩ := HSP.out
        have HKIND := Lib.hid hkind
        have a9 : (0 < K ∧ D ≠ 4) ∨ (K = 0 ∧ D = 4) := by rcases hsg with ⟨h1, h2⟩ | ⟨h1, h2, _⟩; exact .inr ⟨h2, h1⟩; exact .inl ⟨h2, h1⟩
        have A9 := Lib.hid a9
        clear a9
        cases hv : valP (s.data.toList.drop m) with
        | none =>
          have hn : D ≠ 4 ∧ 0 < K ∧ m + K ≤ s.size ∧ unqS (s.data.toList.drop (m + K)) = none := by
            rcases hsg with ⟨h4, _⟩ | ⟨h4, hK, hmk, htr⟩
            · unfold valP at hv
              rw [if_pos (by rw [HKIND.out, h4])] at hv
              cases hv
            · refine ⟨h4, hK, hmk, ?_⟩
              unfold valP at hv
              rw [if_neg (by rw [HKIND.out]; exact h4), HKIND.out, htr] at hv
              exact hv
          obtain ⟨_, hK, hmk, hun⟩ := hn
          have HE : Hid (∀ m, chkE m = 0 → mtextL m ≠ s.data.toList) := bad_all (minv_none hiv.out (by rw [HWE.out]; exact hv)) HS.out
          have hv33 := value33 s (m + K) wx hs (by omega)
          have em : ((m + K : Nat) : Int) = (m : Int) + (K : Int) := by omega
          rw [em] at hv33
          have HV := Lib.hid hv33
          have HUN := Lib.hid hun
          have b0 : decide (0 < K) = true := decide_eq_true hK
          have b1 : decide ((0 : Int) < (K : Int)) = true := decide_eq_true (by omega)
          clear hv33 em hun hsg hv hkind
          go_wp2_with fail
          refine HV.out.mono ?_
          rintro e w2 ⟨hb2, ⟨v, k2, hu, hk1, hk2, rfl⟩ | ⟨hu, rfl⟩⟩
          · rw [HUN.out] at hu; cases hu
          · clear hu
            have hbf : Below w.heap.size w w2 := (hb.trans (hbx.mono hsz)).trans (hb2.mono (Nat.le_trans hsz hbx.size))
            go_wp2_with fail
            go_ret2
            exact mpp_no HE.out hbf
        | some vr =>
          obtain ⟨v, R'⟩ := vr
          have hst := minv_step hiv.out (by rw [HWE.out]; exact hv)
          rw [HWE.out, HKIND.out, ← HNN.out] at hst
          have HST := Lib.hid hst
          have HV := Lib.hid hv
          have HSG := Lib.hid hsg
          clear hst hv hsg hkind
          go_cut [4] from 14 to 98 (fun s4 wz => ∃ k2 : Nat, s4 = .int .i64 k2 ∧ Hid (R' = s.data.toList.drop k2) ∧ k ≤ k2 ∧ k2 ≤ s.size ∧ Below wr.heap.size wr wz ∧ Arr wz wr.heap.size 64 #[.int .i64 D, .string N, .string (bs v)])
          case first =>
            rcases HSG.out with ⟨h4, hK0⟩ | ⟨h4, hK, hmk, htr⟩
            · have hR : v = [] ∧ R' = s.data.toList.drop m := by
                have h := HV.out
                unfold valP at h
                rw [if_pos (by rw [HKIND.out, h4])] at h
                injection h with h
                injection h with h1 h2
                exact ⟨h1.symm, h2.symm⟩
              have HR := Lib.hid hR
              have b0 : decide (0 < K) = false := decide_eq_false (by omega)
              have b1 : decide ((0 : Int) < (K : Int)) = false := decide_eq_false (by omega)
              have b2 : ¬ 0 < K := by omega
              clear h4 hK0 hR
              go_wp2_with fail
              go_meet
              case rel => exact ⟨m, rfl, HR.out.2, hkm, hdl, hbx, by rw [HR.out.1]; exact hax⟩
            · have hun : unqS (s.data.toList.drop (m + K)) = some (v, R') := by
                have h := HV.out
                unfold valP at h
                rw [if_neg (by rw [HKIND.out]; exact h4), HKIND.out, htr] at h
                exact h
              have hv33 := value33 s (m + K) wx hs (by omega)
              have em : ((m + K : Nat) : Int) = (m : Int) + (K : Int) := by omega
              rw [em] at hv33
              have HV3 := Lib.hid hv33
              have HUN := Lib.hid hun
              have b0 : decide (0 < K) = true := decide_eq_true hK
              have b1 : decide ((0 : Int) < (K : Int)) = true := decide_eq_true (by omega)
              clear hv33 em hun h4 htr
              go_wp2_with fail
              refine HV3.out.mono ?_
              rintro e w2 ⟨hb2, ⟨v2, k2, hu, hk1, hk2, rfl⟩ | ⟨hu, rfl⟩⟩
              · have hax2 := hax.below hb2 hax.lt
                have hfz := hax2.frozen 2
                obtain ⟨y0, y1, y2⟩ := arr3_cells hax2
                have hk2s : k2 ≤ s.size := by simpa using hk2
                rw [HUN.out] at hu
                injection hu with hu
                injection hu with hu1 hu2
                subst hu1
                have HR := Lib.hid hu2
                clear hu2 hk2
                go_wp2_with fail
                go_meet
                case rel => exact ⟨k2, rfl, HR, by omega, hk2s, (hbx.trans (hb2.mono hbx.size)).setCell (p := ⟨wr.heap.size, 2, none⟩) (Nat.le_refl _) _, hax2.set 2 _⟩
              · rw [HUN.out] at hu; cases hu
          case rest =>
          obtain ⟨k2, hs4, hR, hk2a, hk2b, hbz, haz⟩ := hcut
          subst hs4
          obtain ⟨wz, hwz⟩ : ∃ wz, wz = wc := ⟨_, rfl⟩
          rw [← hwz] at hbz haz ⊢
          clear hwz wc hax hbx HV HSG
          obtain ⟨y0, y1, y2⟩ := arr3_cells haz
          obtain ⟨V, hV⟩ : ∃ V, V = bs v := ⟨_, rfl⟩
          rw [← hV] at haz y2
          have hownz := own_kp hown (Kp.none_of_below (S := fun _ => False) hbz) (fun _ _ h => h)
          have HOWN := Lib.hid hown
          have hbw : Below w.heap.size w wz := hb.trans (hbz.mono hsz)
          have hsw := hbw.size
          obtain ⟨l8, hl8⟩ : ∃ l8, l8 = l ++ [(D, N, V)] := ⟨_, rfl⟩
          have HL8 := Lib.hid hl8
          have HST2 : Hid (MInv s.data.toList l8 (Lib.trimPrefix R' [44]) (Lib.hasPrefix R' [44])) := by
            have h := HST.out
            rw [← hV, ← hl8] at h
            exact h
          have hln8 : Hid (l8.length = n + 1) := by show _ = _; rw [hl8, List.length_append, hln.out]; rfl
          clear hl8 hV HST hown
          by_cases hcm : k2 < s.size ∧ ∀ h : k2 < s.size, s[k2].toNat = 44
          · obtain ⟨hc1, hc2⟩ := hcm
            have hc3 := hc2 hc1
            have b0 : decide ((k2 : Int) < (s.size : Int)) = true := decide_eq_true (by omega)
            have b1 : decide (k2 < s.size) = true := decide_eq_true hc1
            have b2 : ((s[k2].toNat : Int) == 44) = true := by rw [hc3]; rfl
            obtain ⟨p1, p2⟩ := at_yes (c := 44) hc1 (u8_of hc3)
            have HS2 : Hid (MInv s.data.toList l8 (s.data.toList.drop (k2 + 1)) true) := by
              have h := HST2.out
              rw [hR.out, p1, p2] at h
              exact h
            clear hc2 hc3 p1 p2
            go_wp2_with (at_builtin; refine wpList_append_lies _ rfl (.tmp 83) (.tmp 85) 39 rfl w.heap.size 64 i0 _ 3 40 Tryd.underlying39 hi hz0 hz1 hz2 rfl (by decide) (.slice A5 n c5) n (mv l) rfl (hownz.alloc _) ⟨wz.heap.size, 0, none⟩ 1 1 [.int .i64 D, .string N, .string V] rfl rfl (news_row wz _ 64) (by simp [Value.oneCell']) (by omega) (by unfold maxLen; omega) (by omega) (by simp; omega) (wz.heap.size + 1) (by simp) ?_; intro r cap w8 hown8 hg8 hat8 hlt8)
            have HF : Hid (w8.ownsRow w.heap.size 64 3 (.slice (some ⟨r, 0, none⟩) (n + 1) cap) (n + 1) (mv l8) ∧ Below w.heap.size w w8) := by
              refine ⟨by rw [HL8.out, mv_append]; exact hown8, (hbw.alloc hsw _).grown hg8 (by simp; omega) (fun x hx => (HOWN.out.lt x hx).1)⟩
            clear hown8 hg8 hat8 hlt8 hownz
            go_wp2_with fail
            go_roundw
            case rel => exact ⟨k2 + 1, n + 1, l8, by omega, by go_num, by omega, hln8, HF.out.1, HS2, HF.out.2⟩
            case measure => simp [intOf]; omega
          · have HS2 : Hid (MInv s.data.toList l8 (s.data.toList.drop k2) false) := by
              have h := HST2.out
              obtain ⟨p1, p2⟩ := at_no (s := s) (k := k2) (c := 44) (fun h e => hcm ⟨h, fun _ => by rw [e]; rfl⟩)
              rw [hR.out, p1, p2] at h
              exact h
            obtain ⟨T, hT⟩ : ∃ T, T = bs (mtextL l8) := ⟨_, rfl⟩
            have HFIN := Lib.hid (read_fin (minv_end HS2.out) HS.out)
            have hTS : (T.toList == s.toList) = decide (T = s) := eq_beq T s
            have hTT : T = s ↔ mtextL l8 = s.data.toList := by
              rw [hT]
              constructor
              · intro h; rw [← h, bs_data]
              · intro h; rw [h, bs_of]
            have HCM := Lib.hid hcm
            have HT := Lib.hid hT
            have HTT := Lib.hid hTT
            clear hcm hT hTT
            have hcc : (k2 < s.size ∧ ∀ h : k2 < s.size, ((s[k2].toNat : Int) == 44) = false) ∨ s.size ≤ k2 := by
              by_cases hc1 : k2 < s.size
              · refine .inl ⟨hc1, fun h => ?_⟩
                rw [beq_eq_false_iff_ne]
                intro e
                exact HCM.out ⟨hc1, fun _ => by omega⟩
              · exact .inr (by omega)
            rcases hcc with ⟨hc1, hc2⟩ | hc1
            · have b0 : decide ((k2 : Int) < (s.size : Int)) = true := decide_eq_true (by omega)
              have b1 : decide (k2 < s.size) = true := decide_eq_true hc1
              have b2 := hc2 hc1
              clear hc2
              by_cases hfin : T = s
              · by_cases hz : s.size = 0
                · have e2 : (T.toList == s.toList) = true := by rw [hTS, decide_eq_true hfin]
                  have e3 : s.toList.isEmpty = true := by rw [(empty_iff s).1 hz, ByteArray.toList_eq]; rfl
                  have HE := Lib.hid (empty_bad (S := s.data.toList) (List.eq_nil_of_length_eq_zero (by simpa using hz)))
                  clear hfin hTS HCM hz
                  go_wp2_with (at_builtin; refine wpList_append_lies _ rfl (.tmp 83) (.tmp 85) 39 rfl w.heap.size 64 i0 _ 3 40 Tryd.underlying39 hi hz0 hz1 hz2 rfl (by decide) (.slice A5 n c5) n (mv l) rfl (hownz.alloc _) ⟨wz.heap.size, 0, none⟩ 1 1 [.int .i64 D, .string N, .string V] rfl rfl (news_row wz _ 64) (by simp [Value.oneCell']) (by omega) (by unfold maxLen; omega) (by omega) (by simp; omega) (wz.heap.size + 1) (by simp) ?_; intro r cap w8 hown8 hg8 hat8 hlt8)
                  have HF : Hid (w8.ownsRow w.heap.size 64 3 (.slice (some ⟨r, 0, none⟩) (n + 1) cap) (n + 1) (mv l8) ∧ Below w.heap.size w w8) := by
                    refine ⟨by rw [HL8.out, mv_append]; exact hown8, (hbw.alloc hsw _).grown hg8 (by simp; omega) (fun x hx => (HOWN.out.lt x hx).1)⟩
                  clear hown8 hg8 hat8 hlt8 hownz
                  have hown8 := HF.out.1
                  obtain ⟨A8, c8, hA, hmv8, hc81, hc82⟩ := Mv.of_own hown8
                  injection hA with hA1 hA2 hA3
                  subst hA1; subst hA3
                  have hq := rmtext20 _ (n + 1) cap w8.heap.size l8 w8 hmv8 (Nat.le_refl _)
                  rw [← HT.out] at hq
                  have HQ := Lib.hid hq
                  clear hq hown8 hmv8
                  go_wp2_with fail
                  refine HQ.out.mono ?_
                  rintro e w9 ⟨rfl, hb9⟩
                  have hbf := HF.out.2.trans (hb9.mono HF.out.2.size)
                  go_wp2_with fail
                  go_ret2
                  exact mpp_no HE.out hbf
                · have e2 : (T.toList == s.toList) = true := by rw [hTS, decide_eq_true hfin]
                  have e3 := not_empty hz
                  have HG := Lib.hid (HFIN.out.1 (HTT.out.1 hfin) (data_ne hz))
                  clear hfin hTS HCM hz
                  go_wp2_with (at_builtin; refine wpList_append_lies _ rfl (.tmp 83) (.tmp 85) 39 rfl w.heap.size 64 i0 _ 3 40 Tryd.underlying39 hi hz0 hz1 hz2 rfl (by decide) (.slice A5 n c5) n (mv l) rfl (hownz.alloc _) ⟨wz.heap.size, 0, none⟩ 1 1 [.int .i64 D, .string N, .string V] rfl rfl (news_row wz _ 64) (by simp [Value.oneCell']) (by omega) (by unfold maxLen; omega) (by omega) (by simp; omega) (wz.heap.size + 1) (by simp) ?_; intro r cap w8 hown8 hg8 hat8 hlt8)
                  have HF : Hid (w8.ownsRow w.heap.size 64 3 (.slice (some ⟨r, 0, none⟩) (n + 1) cap) (n + 1) (mv l8) ∧ Below w.heap.size w w8) := by
                    refine ⟨by rw [HL8.out, mv_append]; exact hown8, (hbw.alloc hsw _).grown hg8 (by simp; omega) (fun x hx => (HOWN.out.lt x hx).1)⟩
                  clear hown8 hg8 hat8 hlt8 hownz
                  have hown8 := HF.out.1
                  obtain ⟨A8, c8, hA, hmv8, hc81, hc82⟩ := Mv.of_own hown8
                  injection hA with hA1 hA2 hA3
                  subst hA1; subst hA3
                  have hq := rmtext20 _ (n + 1) cap w8.heap.size l8 w8 hmv8 (Nat.le_refl _)
                  rw [← HT.out] at hq
                  have HQ := Lib.hid hq
                  clear hq hown8 hmv8
                  go_wp2_with fail
                  refine HQ.out.mono ?_
                  rintro e w9 ⟨rfl, hb9⟩
                  have hbf := HF.out.2.trans (hb9.mono HF.out.2.size)
                  go_wp2_with fail
                  go_ret2
                  exact ⟨hbf, .inl ⟨_, l8, rfl, by rw [hln8.out]; exact own_kp HF.out.1 (Kp.none_of_below (S := fun _ => False) hb9) (fun _ _ h => h), HG.out⟩⟩
              · have e2 : (T.toList == s.toList) = false := by rw [hTS, decide_eq_false hfin]
                have HE := Lib.hid (HFIN.out.2 (fun h => hfin (HTT.out.2 h)))
                clear hfin hTS HCM
                go_wp2_with (at_builtin; refine wpList_append_lies _ rfl (.tmp 83) (.tmp 85) 39 rfl w.heap.size 64 i0 _ 3 40 Tryd.underlying39 hi hz0 hz1 hz2 rfl (by decide) (.slice A5 n c5) n (mv l) rfl (hownz.alloc _) ⟨wz.heap.size, 0, none⟩ 1 1 [.int .i64 D, .string N, .string V] rfl rfl (news_row wz _ 64) (by simp [Value.oneCell']) (by omega) (by unfold maxLen; omega) (by omega) (by simp; omega) (wz.heap.size + 1) (by simp) ?_; intro r cap w8 hown8 hg8 hat8 hlt8)
                have HF : Hid (w8.ownsRow w.heap.size 64 3 (.slice (some ⟨r, 0, none⟩) (n + 1) cap) (n + 1) (mv l8) ∧ Below w.heap.size w w8) := by
                  refine ⟨by rw [HL8.out, mv_append]; exact hown8, (hbw.alloc hsw _).grown hg8 (by simp; omega) (fun x hx => (HOWN.out.lt x hx).1)⟩
                clear hown8 hg8 hat8 hlt8 hownz
                have hown8 := HF.out.1
                obtain ⟨A8, c8, hA, hmv8, hc81, hc82⟩ := Mv.of_own hown8
                injection hA with hA1 hA2 hA3
                subst hA1; subst hA3
                have hq := rmtext20 _ (n + 1) cap w8.heap.size l8 w8 hmv8 (Nat.le_refl _)
                rw [← HT.out] at hq
                have HQ := Lib.hid hq
                clear hq hown8 hmv8
                go_wp2_with fail
                refine HQ.out.mono ?_
                rintro e w9 ⟨rfl, hb9⟩
                have hbf := HF.out.2.trans (hb9.mono HF.out.2.size)
                go_wp2_with fail
                go_ret2
                exact mpp_no HE.out hbf
            · have b0 : decide ((k2 : Int) < (s.size : Int)) = false := decide_eq_false (by omega)
              have b1 : decide (k2 < s.size) = false := decide_eq_false (by omega)
              by_cases hfin : T = s
              · by_cases hz : s.size = 0
                · have e2 : (T.toList == s.toList) = true := by rw [hTS, decide_eq_true hfin]
                  have e3 : s.toList.isEmpty = true := by rw [(empty_iff s).1 hz, ByteArray.toList_eq]; rfl
                  have HE := Lib.hid (empty_bad (S := s.data.toList) (List.eq_nil_of_length_eq_zero (by simpa using hz)))
                  clear hfin hTS HCM hz
                  go_wp2_with (at_builtin; refine wpList_append_lies _ rfl (.tmp 83) (.tmp 85) 39 rfl w.heap.size 64 i0 _ 3 40 Tryd.underlying39 hi hz0 hz1 hz2 rfl (by decide) (.slice A5 n c5) n (mv l) rfl (hownz.alloc _) ⟨wz.heap.size, 0, none⟩ 1 1 [.int .i64 D, .string N, .string V] rfl rfl (news_row wz _ 64) (by simp [Value.oneCell']) (by omega) (by unfold maxLen; omega) (by omega) (by simp; omega) (wz.heap.size + 1) (by simp) ?_; intro r cap w8 hown8 hg8 hat8 hlt8)
                  have HF : Hid (w8.ownsRow w.heap.size 64 3 (.slice (some ⟨r, 0, none⟩) (n + 1) cap) (n + 1) (mv l8) ∧ Below w.heap.size w w8) := by
                    refine ⟨by rw [HL8.out, mv_append]; exact hown8, (hbw.alloc hsw _).grown hg8 (by simp; omega) (fun x hx => (HOWN.out.lt x hx).1)⟩
                  clear hown8 hg8 hat8 hlt8 hownz
                  have hown8 := HF.out.1
                  obtain ⟨A8, c8, hA, hmv8, hc81, hc82⟩ := Mv.of_own hown8
                  injection hA with hA1 hA2 hA3
                  subst hA1; subst hA3
                  have hq := rmtext20 _ (n + 1) cap w8.heap.size l8 w8 hmv8 (Nat.le_refl _)
                  rw [← HT.out] at hq
                  have HQ := Lib.hid hq
                  clear hq hown8 hmv8
                  go_wp2_with fail
                  refine HQ.out.mono ?_
                  rintro e w9 ⟨rfl, hb9⟩
                  have hbf := HF.out.2.trans (hb9.mono HF.out.2.size)
                  go_wp2_with fail
                  go_ret2
                  exact mpp_no HE.out hbf
                · have e2 : (T.toList == s.toList) = true := by rw [hTS, decide_eq_true hfin]
                  have e3 := not_empty hz
                  have HG := Lib.hid (HFIN.out.1 (HTT.out.1 hfin) (data_ne hz))
                  clear hfin hTS HCM hz
                  go_wp2_with (at_builtin; refine wpList_append_lies _ rfl (.tmp 83) (.tmp 85) 39 rfl w.heap.size 64 i0 _ 3 40 Tryd.underlying39 hi hz0 hz1 hz2 rfl (by decide) (.slice A5 n c5) n (mv l) rfl (hownz.alloc _) ⟨wz.heap.size, 0, none⟩ 1 1 [.int .i64 D, .string N, .string V] rfl rfl (news_row wz _ 64) (by simp [Value.oneCell']) (by omega) (by unfold maxLen; omega) (by omega) (by simp; omega) (wz.heap.size + 1) (by simp) ?_; intro r cap w8 hown8 hg8 hat8 hlt8)
                  have HF : Hid (w8.ownsRow w.heap.size 64 3 (.slice (some ⟨r, 0, none⟩) (n + 1) cap) (n + 1) (mv l8) ∧ Below w.heap.size w w8) := by
                    refine ⟨by rw [HL8.out, mv_append]; exact hown8, (hbw.alloc hsw _).grown hg8 (by simp; omega) (fun x hx => (HOWN.out.lt x hx).1)⟩
                  clear hown8 hg8 hat8 hlt8 hownz
                  have hown8 := HF.out.1
                  obtain ⟨A8, c8, hA, hmv8, hc81, hc82⟩ := Mv.of_own hown8
                  injection hA with hA1 hA2 hA3
                  subst hA1; subst hA3
                  have hq := rmtext20 _ (n + 1) cap w8.heap.size l8 w8 hmv8 (Nat.le_refl _)
                  rw [← HT.out] at hq
                  have HQ := Lib.hid hq
                  clear hq hown8 hmv8
                  go_wp2_with fail
                  refine HQ.out.mono ?_
                  rintro e w9 ⟨rfl, hb9⟩
                  have hbf := HF.out.2.trans (hb9.mono HF.out.2.size)
                  go_wp2_with fail
                  go_ret2
                  exact ⟨hbf, .inl ⟨_, l8, rfl, by rw [hln8.out]; exact own_kp HF.out.1 (Kp.none_of_below (S := fun _ => False) hb9) (fun _ _ h => h), HG.out⟩⟩
              · have e2 : (T.toList == s.toList) = false := by rw [hTS, decide_eq_false hfin]
                have HE := Lib.hid (HFIN.out.2 (fun h => hfin (HTT.out.2 h)))
                clear hfin hTS HCM
                go_wp2_with (at_builtin; refine wpList_append_lies _ rfl (.tmp 83) (.tmp 85) 39 rfl w.heap.size 64 i0 _ 3 40 Tryd.underlying39 hi hz0 hz1 hz2 rfl (by decide) (.slice A5 n c5) n (mv l) rfl (hownz.alloc _) ⟨wz.heap.size, 0, none⟩ 1 1 [.int .i64 D, .string N, .string V] rfl rfl (news_row wz _ 64) (by simp [Value.oneCell']) (by omega) (by unfold maxLen; omega) (by omega) (by simp; omega) (wz.heap.size + 1) (by simp) ?_; intro r cap w8 hown8 hg8 hat8 hlt8)
                have HF : Hid (w8.ownsRow w.heap.size 64 3 (.slice (some ⟨r, 0, none⟩) (n + 1) cap) (n + 1) (mv l8) ∧ Below w.heap.size w w8) := by
                  refine ⟨by rw [HL8.out, mv_append]; exact hown8, (hbw.alloc hsw _).grown hg8 (by simp; omega) (fun x hx => (HOWN.out.lt x hx).1)⟩
                clear hown8 hg8 hat8 hlt8 hownz
                have hown8 := HF.out.1
                obtain ⟨A8, c8, hA, hmv8, hc81, hc82⟩ := Mv.of_own hown8
                injection hA with hA1 hA2 hA3
                subst hA1; subst hA3
                have hq := rmtext20 _ (n + 1) cap w8.heap.size l8 w8 hmv8 (Nat.le_refl _)
                rw [← HT.out] at hq
                have HQ := Lib.hid hq
                clear hq hown8 hmv8
                go_wp2_with fail
                refine HQ.out.mono ?_
                rintro e w9 ⟨rfl, hb9⟩
                have hbf := HF.out.2.trans (hb9.mono HF.out.2.size)
                go_wp2_with fail
                go_ret2
                exact mpp_no HE.out hbf
      · have d0 : decide ((n : Int) ≤ 8) = false := decide_eq_false (by omega)
        have d1 : decide (n ≤ 8) = false := decide_eq_false h8
        have ht : mtextL l = [] := by unfold mtextL; rw [if_pos (by rw [chk_long (by rw [hln.out]; omega)]; decide)]
        have hq := rmtext20 A5 n c5 _ l wr hmv5 (Nat.le_refl _)
        rw [ht] at hq
        have HQ := Lib.hid hq
        clear hq ht
        by_cases hz : s.size = 0
        · have HE := Lib.hid (empty_bad (S := s.data.toList) (List.eq_nil_of_length_eq_zero (by simpa using hz)))
          obtain ⟨T, hT⟩ : ∃ T, T = bs [] := ⟨_, rfl⟩
          have e2 : (T.toList == s.toList) = true := by
            rw [eq_beq, decide_eq_true]
            rw [hT, (empty_iff s).1 hz]; rfl
          have e3 : s.toList.isEmpty = true := by rw [(empty_iff s).1 hz, ByteArray.toList_eq]; rfl
          have HQ2 := HQ.out
          rw [← hT] at HQ2
          have HQ3 := Lib.hid HQ2
          clear hz hT HQ2
          go_wp2_with fail
          refine HQ3.out.mono ?_
          rintro e w9 ⟨rfl, hb9⟩
          have hbf := hb.trans (hb9.mono hsz)
          go_wp2_with fail
          go_ret2
          exact mpp_no HE.out hbf
        · have HE := Lib.hid (bad_all (minv_long hiv.out (by rw [hln.out]; omega)) HS.out)
          have e2 : ((bs []).toList == s.toList) = false := by
            rw [eq_beq, decide_eq_false]
            intro e; rw [← e] at hz; exact hz rfl
          obtain ⟨T, hT⟩ : ∃ T, T = bs [] := ⟨_, rfl⟩
          rw [← hT] at e2
          have HQ2 := HQ.out
          rw [← hT] at HQ2
          have HQ3 := Lib.hid HQ2
          clear hz hT HQ2
          go_wp2_with fail
          refine HQ3.out.mono ?_
          rintro e w9 ⟨rfl, hb9⟩
          have hbf := hb.trans (hb9.mono hsz)
          go_wp2_with fail
          go_ret2
          exact mpp_no HE.out hbf
end Go.Proofs.YtlicnadbccjbjaaDoor
