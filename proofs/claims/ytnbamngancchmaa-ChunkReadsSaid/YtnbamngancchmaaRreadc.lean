/- What lysimeterref4.ReadChunk answers: the same as chunk.Unpack. Conditions: at most 10^5 bytes, each below 256. -/
import Derived.Test.YtnbamngancchmaaCunpack
import Derived.Test.YtnbamngancchmaaRefReadV
namespace Go.Proofs.Ytnbamngancchmaa
open Go.RowKit PB PC

set_option maxRecDepth 100000 in
set_option maxHeartbeats 2000000 in
theorem rreadchunk_any (A : Option Addr) (n c B : Nat) (l : List Nat) (w : World) (hr : Rd w B A n (l.map bv)) (hB : B ≤ w.heap.size) (hnc : n ≤ c) (hcm : c ≤ maxLen) (hn : n ≤ 100000) (hb : ∀ x ∈ l, x < 256) :
    Calls Try.prog 35 #[.slice A n c] w (UCPost w l) := by
  obtain ⟨i0, hi, hz0, hz1, hz2⟩ := info_parts Try.info43
  have hl := hr.blen
  have hq := rvint_get A n c B l w hr (by omega) hb
  have HL := Lib.hid hl
  have HR := Lib.hid hr
  have HB := Lib.hid hb
  have HCM := Lib.hid hcm
  clear hr hb hcm hl
  cases hv : vget l with
  | none =>
    have HP := Lib.hid (unpackC_n1 hv)
    unfold VgPost VgV VgK VgE at hq
    rw [hv] at hq
    simp only [Option.isSome_none, Bool.false_eq_true, if_false] at hq
    clear hv
    go_enter Try.func35, Try.ntmps35
    go_wp2_with fail
    refine hq.mono ?_
    rintro e w1 ⟨rfl, rfl⟩
    go_wp2_with fail
    go_ret3
    exact uc_no HP.out (Below.refl _ _)
  | some uk =>
    obtain ⟨u, k⟩ := uk
    obtain ⟨hu64, hkk, hkl, _⟩ := vget_back HB.out hv
    clear hkk
    rw [HL.out] at hkl
    have HV := Lib.hid hv
    unfold VgPost VgV VgK VgE at hq
    rw [hv] at hq
    simp only [Option.isSome_some, if_true] at hq
    clear hv
    obtain ⟨U, hU⟩ : ∃ U, U = wrap64 (u : Int) := ⟨_, rfl⟩
    rw [← hU] at hq
    have HU := Lib.hid hU
    have hk0 : 0 < n := by
      rcases Nat.eq_zero_or_pos n with h | h
      · exfalso
        have : l = [] := List.eq_nil_of_length_eq_zero (by rw [HL.out]; exact h)
        have h2 := HV.out
        rw [this] at h2
        cases h2
      · exact h
    clear hU
    by_cases hin : 1 ≤ U ∧ U ≤ 120
    · obtain ⟨hU0, hU1⟩ := hin
      have hct := cut_any A n c B k l w HR.out hnc HCM.out (by omega) HB.out hkl hk0
      go_enter Try.func35, Try.ntmps35
      go_wp2_with fail
      refine hq.mono ?_
      rintro e w1 ⟨rfl, rfl⟩
      go_wp2_with fail
      refine hct.mono ?_
      rintro e w2 ⟨rfl, ⟨hc, rfl⟩ | ⟨x, e1, A1, c1, hc, rfl, hr1, he1⟩⟩
      · have HP := Lib.hid (unpackC_n3 HV.out hc)
        clear hc hct hq
        go_wp2_with fail
        go_ret3
        exact uc_no HP.out (Below.refl _ _)
      · have HC1 := Lib.hid hc
        have HX := Lib.hid (cutL_lt (fun y hy => HB.out y (List.mem_of_mem_drop hy)) hc)
        have hxs : x.length ≤ 100000 := by
          have h2 := congrArg List.length HX.out.2.1
          unfold lenB at h2
          rw [List.length_take, List.length_append, List.length_drop, HL.out] at h2
          omega
        rw [HL.out] at he1
        obtain ⟨at2, hat2⟩ : ∃ q, q = k + e1 := ⟨_, rfl⟩
        rw [← hat2] at he1 ⊢
        have HAT := Lib.hid hat2
        have hct2 := cut_any A n c B at2 l w2 HR.out hnc HCM.out (by omega) HB.out he1 hk0
        obtain ⟨lx, hlx⟩ : ∃ lx, lx = x.length := ⟨_, rfl⟩
        rw [← hlx] at hr1 hxs ⊢
        clear hc hct hq hat2 hlx
        go_wp2_with fail
        refine hct2.mono ?_
        rintro e w3 ⟨rfl, ⟨hc, rfl⟩ | ⟨y, e2, A3, c3, hc, rfl, hr3, he3⟩⟩
        · rw [HAT.out] at hc
          have HP := Lib.hid (unpackC_n4 HV.out HC1.out hc)
          clear hc hct2
          go_wp2_with fail
          go_ret3
          exact uc_no HP.out (Below.refl _ _)
        · have HY := Lib.hid (cutL_lt (fun z hz => HB.out z (List.mem_of_mem_drop hz)) hc)
          have hys : y.length ≤ 100000 := by
            have h2 := congrArg List.length HY.out.2.1
            unfold lenB at h2
            rw [List.length_take, List.length_append, List.length_drop, HL.out] at h2
            omega
          rw [HAT.out] at hc
          have HC2 := Lib.hid hc
          obtain ⟨ly, hly⟩ : ∃ ly, ly = y.length := ⟨_, rfl⟩
          rw [← hly] at hr3 hys ⊢
          obtain ⟨at3, hat3⟩ : ∃ q, q = at2 + e2 := ⟨_, rfl⟩
          rw [← hat3]
          have HAT3 := Lib.hid hat3
          have hq3 := rread_any A1 lx c1 B U x w3 hr1 hB hxs HX.out.2.2
          have HR3 := Lib.hid hr3
          clear hc hct2 hly hat3 hr1 hr3
          go_wp2_with fail
          refine hq3.mono ?_
          rintro e w4 ⟨vt, rfl, ho4, hb4⟩
          have HB4 := Lib.hid hb4
          have hB4 : B ≤ w4.heap.size := Nat.le_trans hB hb4.size
          have hq4 := rreadv_any A3 ly c3 B U y w4 (HR3.out.below (hb4.mono hB)) hB4 hys HY.out.2.2
          obtain ⟨E1, hE1⟩ : ∃ E, E = unpackE x U := ⟨_, rfl⟩
          obtain ⟨E2, hE2⟩ : ∃ E, E = unpackVE y U := ⟨_, rfl⟩
          unfold UVPost at hq4
          rw [← hE2] at hq4
          rw [← hE1]
          have HE := Lib.hid (And.intro hE1 hE2)
          have HO4 := Lib.hid ho4
          clear hE1 hE2 hq3 ho4 hb4
          go_wp2_with fail
          refine hq4.mono ?_
          rintro e w5 ⟨vv, rfl, ho5, hb5⟩
          have HBW : Hid (Below w3.heap.size w3 w5 ∧ w3.heap.size ≤ w5.heap.size) := by
            have h2 := HB4.out.size
            have h3 := hb5.size
            exact ⟨HB4.out.trans (hb5.mono h2), by omega⟩
          have HO5 := Lib.hid ho5
          have HB5 := Lib.hid hb5
          clear hq4 ho5 hb5
          have hcs : E1 ≠ 0 ∨ (E1 = 0 ∧ E2 ≠ 0) ∨ (E1 = 0 ∧ E2 = 0) := by
            rcases Decidable.em (E1 = 0) with h | h
            · rcases Decidable.em (E2 = 0) with h2 | h2
              · exact Or.inr (Or.inr ⟨h, h2⟩)
              · exact Or.inr (Or.inl ⟨h, h2⟩)
            · exact Or.inl h
          rcases hcs with h1 | ⟨h1, h2⟩ | ⟨rfl, rfl⟩
          · have HP : Hid (unpackC l = none) := by
              have h := h1
              rw [HE.out.1] at h
              rcases unpackE_ne h with h | h
              · exact unpackC_n2 HV.out (by rw [← HU.out]; exact h)
              · exact unpackC_n5 HV.out HC1.out HC2.out (by rw [← HU.out]; exact h)
            have hEb : (E1 != 0) = true := by simpa using h1
            clear h1
            go_wp2_with fail
            go_ret3
            exact uc_no HP.out HBW.out.1
          · have HP : Hid (unpackC l = none) := by
              have h := h2
              rw [HE.out.2] at h
              rcases unpackVE_ne h with h | h
              · exact unpackC_n2 HV.out (by rw [← HU.out]; exact h)
              · exact unpackC_n6 HV.out HC1.out HC2.out (by rw [← HU.out]; exact h)
            have hEb : (E1 != 0) = false := by simpa using h1
            have hEb2 : (E2 != 0) = true := by simpa using h2
            clear h1 h2
            go_wp2_with fail
            go_ret3
            exact uc_no HP.out HBW.out.1
          · obtain ⟨_, _, t, htu, htl⟩ := unpackE_eq HE.out.1.symm
            obtain ⟨_, _, v, hvu, hvl⟩ := unpackVE_eq HE.out.2.symm
            obtain ⟨k1, _, _, k4⟩ := unpackC_back HB.out HV.out (by rw [← HU.out]; exact hU0) (by rw [← HU.out]; exact hU1) HC1.out HC2.out (by rw [← HU.out]; exact htu) (by rw [← HU.out]; exact hvu)
            have hl1 := (unpack_some htu).1
            have hl2 := (unpackV_some hvu).1
            obtain ⟨M, hM⟩ : ∃ M, M = U.toNat := ⟨_, rfl⟩
            rw [← hM] at hl1 hl2
            have ho4 := HO4.out
            have ho5 := HO5.out
            rw [htl, hl1] at ho4
            rw [hvl, hl2] at ho5
            obtain ⟨At, ct, rfl, hrt, _⟩ := Rd.of_own ho4
            obtain ⟨Av, cv, rfl, hrv, _⟩ := Rd.of_own ho5
            rw [← HAT.out, ← HAT3.out] at k1 k4
            rw [HL.out] at k4
            have HP := Lib.hid k1
            have HRT : Hid (Rd w5 w5.heap.size At M (ints t)) := (hrt.below HB5.out).more HB5.out.size
            have HRV := Lib.hid hrv
            have hMU : U = (M : Int) := by rw [hM]; omega
            have hMb : M ≤ 120 := by omega
            have HLL := Lib.hid (And.intro hl1 hl2)
            clear htu htl hvu hvl ho4 ho5 hrt hrv hl1 hl2 k1 hM HE
            rw [hMU]
            go_wp2_with fail
            go_loopw [15, 16] (fun s i wr => ∃ j : Nat, j ≤ M ∧ i = .int .i64 j ∧ Hid (wr.ownsRow w5.heap.size 43 2 s j (sc ((t.zip v).take j)) ∧ Below w5.heap.size w5 wr)) (fun _ i _ => M - (intOf i).toNat)
            case atStart => exact ⟨0, Nat.zero_le _, rfl, World.ownsRow_nil _ _ _ _, Below.refl _ _⟩
            case round =>
              obtain ⟨j, hj, rfl, HJ⟩ := hrel
              by_cases hlt : j < M
              · obtain ⟨bt, ot, rfl, _, hct⟩ := (HRT.out.below HJ.out.2).int hlt
                obtain ⟨bv', ov, rfl, _, hcv⟩ := (HRV.out.below HJ.out.2).int hlt
                have c0 := hct j hlt
                have c1' := hcv j hlt
                have HZ : Hid ((t.zip v).take (j + 1) = (t.zip v).take j ++ [(t.getD j 0, v.getD j 0)]) := zip_take (by rw [HLL.out.1]; exact hlt) (by rw [HLL.out.2]; exact hlt)
                obtain ⟨a, ha⟩ : ∃ a, a = t.getD j 0 := ⟨_, rfl⟩
                obtain ⟨d, hd⟩ : ∃ d, d = v.getD j 0 := ⟨_, rfl⟩
                rw [← ha] at c0 HZ
                rw [← hd] at c1' HZ
                have HO : Hid (wr.drew.ownsRow w5.heap.size 43 2 u15 j (sc ((t.zip v).take j))) := HJ.out.1
                have hsz := HJ.out.2.size
                have hA0 : 0 < 2 := by decide
                have hA1 : 0 < 1 := by decide
                have hA2 : j + 1 ≤ maxLen := by unfold maxLen; omega
                have hA3 : (j + 1) * 16 ≤ 140737488355328 := by omega
                have hj0 : (0 : Int) ≤ (j : Int) := by omega
                have hj1 : (j : Int) < (M : Int) := by omega
                clear hct hcv ha hd
                go_wp2_with fail
                go_region_law ((refine step_append_lies _ (by rfl) (.tmp 74) (.tmp 84) 38 (by rfl) w5.heap.size 43 i0 _ 2 16 Try.underlying38 hi hz0 hz1 hz2 rfl hA0 u15 j (sc ((t.zip v).take j)) (by rfl) (HO.out.alloc _) ⟨wr.heap.size, 0, none⟩ 1 1 [.int .i64 a, .int .i64 d] (by rfl) (by rfl) (two_cells wr _ _ 43) (by simp [Value.oneCell']) hA1 hA2 hA3 (by simp; omega) _ rfl ?_; intro r cap w6 hown6 hg6 hat6 hlt6))
                all_goals
                  have HJ6 : Hid (w6.ownsRow w5.heap.size 43 2 (.slice (some ⟨r, 0, none⟩) (j + 1) cap) (j + 1) (sc ((t.zip v).take (j + 1))) ∧ Below w5.heap.size w5 w6) := by
                    refine ⟨?_, ((HJ.out.2.drew).alloc hsz _).grown hg6 (by simp; omega) (fun x hx => (HO.out.lt x hx).1)⟩
                    rw [HZ.out, sc_snoc]; exact hown6
                  clear hown6 hg6 hat6 hlt6
                  go_wp2_with fail
                  go_roundw
                  case rel => exact ⟨j + 1, by omega, by go_num, HJ6.out⟩
                  case measure => simp [intOf]; omega
              · obtain rfl : j = M := by omega
                have hown := HJ.out.1
                have hzl : (t.zip v).length = j := by rw [List.length_zip, HLL.out.1, HLL.out.2]; exact Nat.min_self j
                rw [List.take_of_length_le (by omega)] at hown
                have HF : Hid (UCPost w3 l (.returned (.tuple #[u15, .int .i64 (at3 : Int), .int .i64 0])) wr) := uc_ok HP.out hzl (own_base hown HBW.out.2) (HBW.out.1.trans (HJ.out.2.mono HBW.out.2))
                clear hown hzl
                go_wp2_with fail
                go_ret3
                exact HF.out
    · have HP := Lib.hid (unpackC_n2 HV.out (by rw [← HU.out]; omega))
      have hcs : U < 1 ∨ (1 ≤ U ∧ 120 < U) := by omega
      clear hin
      rcases hcs with hcs | ⟨hcs, hcs2⟩
      all_goals
        go_enter Try.func35, Try.ntmps35
        go_wp2_with fail
        refine hq.mono ?_
        rintro e w1 ⟨rfl, rfl⟩
        go_wp2_with fail
        go_ret3
        exact uc_no HP.out (Below.refl _ _)
end Go.Proofs.Ytnbamngancchmaa
