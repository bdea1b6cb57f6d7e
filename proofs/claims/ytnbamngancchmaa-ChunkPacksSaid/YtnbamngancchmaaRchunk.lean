/- What lysimeterref4.Chunk answers: the same as chunk.Pack. Conditions: at most 10^9 samples. -/
import Derived.Test.YtnbamngancchmaaCpack
import Derived.Test.YtnbamngancchmaaRefValues
namespace Go.Proofs.Ytnbamngancchmaa
open Go.RowKit PB PC

set_option maxRecDepth 100000 in
set_option maxHeartbeats 1000000 in
theorem rchunk_any (A : Option Addr) (n c B : Nat) (l : List (Int × Int)) (w : World) (hr : Rs2 w B A n l) (hB : B ≤ w.heap.size) (hn : n ≤ 1000000000) :
    Calls Try.prog 31 #[.slice A n c] w (CPost w l) := by
  obtain ⟨i0, hi, hz0, hz1, hz2⟩ := info_parts Try.info5
  have hl := hr.1
  have hcols := rparts_any A n c B l w hr hB hn
  by_cases hn0 : n = 0
  · have HE : Hid (packCE l = 1 ∧ packCB l = []) := by
      have h1 : packCE l = 1 := by unfold packCE; rw [if_pos (by omega)]
      exact ⟨h1, by unfold packCB; rw [if_neg (by rw [h1]; decide)]⟩
    subst hn0
    clear hl hcols
    go_enter Try.func31, Try.ntmps31
    go_wp2_with fail
    go_ret2
    exact ⟨.slice none 0 0, by rw [HE.out.1]; rfl, by rw [HE.out.2]; exact World.ownsRow_nil _ _ _ _, Below.refl _ _⟩
  · have hnb : ((n : Int) == 0) = false := by simp; omega
    have hn1 : 0 < n := by omega
    have HL := Lib.hid hl
    clear hl
    go_enter Try.func31, Try.ntmps31
    go_wp2_with fail
    refine hcols.mono ?_
    rintro e w1 ⟨v1, v2, rfl, ho1, ho2, hb1⟩
    obtain ⟨A1, c1, rfl, hr1, _⟩ := Rd.of_own ho1
    obtain ⟨A2, c2, rfl, hr2, _⟩ := Rd.of_own ho2
    have hp := rstamps_any A1 n c1 w1.heap.size (fsts l) w1 hr1 (Nat.le_refl _) hn
    have HB1 := Lib.hid hb1
    have HR2 := Lib.hid hr2
    clear hcols ho1 ho2 hr1 hr2 hb1
    go_wp2_with fail
    refine hp.mono ?_
    rintro e w2 ⟨va, rfl, hoa, hb2⟩
    by_cases hE : PS.packE (fsts l) = 0
    · have HE : Hid (packCE l = 0) := by show _ = _; unfold packCE; rw [if_neg (by rw [HL.out]; omega)]; exact hE
      have hz := packCE_zero HE.out
      have hpos := packB_pos hE (by rw [fsts_len, HL.out]; exact hn1)
      have hposV := packBV_pos hz.2.2.2 (by rw [snds_len, HL.out]; exact hn1)
      have hsa := packB_small (fsts l)
      have hsc := packBV_small (snds l)
      have hn120 : n ≤ 120 := by have := hz.2.1; rw [HL.out] at this; exact this
      have hq := rvalues_any A2 n c2 w1.heap.size (snds l) w2 (HR2.out.below hb2) hb2.size hn
      unfold VPost at hq
      rw [hz.2.2.2] at hq
      rw [hE]
      obtain ⟨a, ha⟩ : ∃ a, a = PS.packB (fsts l) := ⟨_, rfl⟩
      obtain ⟨cc, hcc⟩ : ∃ cc, cc = PV.packBV (snds l) := ⟨_, rfl⟩
      rw [← ha] at hoa hpos hsa
      rw [← hcc] at hq hposV hsc
      have HAC := Lib.hid (And.intro ha hcc)
      obtain ⟨la, hla⟩ : ∃ la, la = a.length := ⟨_, rfl⟩
      obtain ⟨lc, hlc⟩ : ∃ lc, lc = cc.length := ⟨_, rfl⟩
      rw [← hla] at hoa hpos hsa
      rw [← hlc] at hq hposV hsc
      have HLA := Lib.hid (And.intro hla hlc)
      obtain ⟨ra, ka, _, rfl, _⟩ := own_form hoa hpos
      have HOA := Lib.hid hoa
      have HB2 := Lib.hid (HB1.out.trans (hb2.mono HB1.out.size))
      clear hz hE ha hcc hla hlc hp hoa hb2
      go_wp2_with fail
      refine hq.mono ?_
      rintro e w3 ⟨vc, rfl, hoc, hb3⟩
      obtain ⟨rc, kc, _, rfl, _⟩ := own_form hoc hposV
      have hr3c := own_rd0 hoc
      have hr3a := (own_rd0 HOA.out).below hb3
      obtain ⟨H3, hH3⟩ : ∃ H, H = w3.heap.size := ⟨_, rfl⟩
      have hr3c' : Rd w3 H3 (some ⟨rc, 0, none⟩) lc (cc.map bv) := by rw [hH3]; exact hr3c
      have hr3a' : Rd w3 H3 (some ⟨ra, 0, none⟩) la (a.map bv) := by rw [hH3]; exact hr3a.more hb3.size
      have HB3 : Hid (Below w.heap.size w w3 ∧ w.heap.size ≤ H3) := ⟨HB2.out.trans (hb3.mono HB2.out.size), by rw [hH3]; exact Nat.le_trans HB2.out.size hb3.size⟩
      have HH3 : Hid (H3 = w3.heap.size) := hH3
      -- the first number
      have hq3 := rvint_put (n : Int) w3
      unfold VpPost at hq3
      rw [un_nat (show n < 9223372036854775808 by omega)] at hq3
      have hvn := vput_len n
      clear hq hoc hb3 hr3c hr3a
      go_wp2_with fail
      refine hq3.mono ?_
      rintro e w4 ⟨vo, rfl, hoo, hb4⟩
      rw [← hH3] at hoo hb4
      obtain ⟨N, hN⟩ : ∃ N, N = (vput n).length := ⟨_, rfl⟩
      rw [← hN] at hoo hvn
      have HN := Lib.hid hN
      have hs4 : H3 ≤ w4.heap.size := by have := hb4.size; omega
      -- the times' length
      have hq4 := rvint_put (la : Int) w4
      unfold VpPost at hq4
      rw [un_nat (show la < 9223372036854775808 by omega)] at hq4
      have hvm := vput_len la
      clear hq3 hN hH3
      go_wp2_with fail
      refine hq4.mono ?_
      rintro e w5 ⟨vp, rfl, hop, hb5⟩
      obtain ⟨mp, hmp⟩ : ∃ mp, mp = (vput la).length := ⟨_, rfl⟩
      rw [← hmp] at hop hvm
      obtain ⟨rp, kp, _, rfl, _⟩ := own_form hop hvm.1
      have hrp := own_rd0 hop
      have hown5 := own_kp (S := fun _ => False) hoo (Kp.none_of_below hb5) (fun _ _ h => h)
      have hs5 := hb5.size
      have HB5 : Hid (Below H3 w3 w5) := hb4.trans (hb5.mono hs4)
      have HMP := Lib.hid hmp
      have hvq := vput_len lc
      have hqv := fun w => rvint_put (lc : Int) w
      unfold VpPost at hqv
      rw [un_nat (show lc < 9223372036854775808 by omega)] at hqv
      obtain ⟨mq, hmq⟩ : ∃ mq, mq = (vput lc).length := ⟨_, rfl⟩
      rw [← hmq] at hqv hvq
      have HMQ := Lib.hid hmq
      clear hq4 hop hoo hb4 hb5 hmp hmq
      go_wp2_with (at_builtin; first
        | (refine wpList_append_own_at _ rfl (.tmp 34) (.tmp 37) 24 rfl H3 5 i0 (.int .u8 0) 1 1 Try.underlying24 hi hz0 hz1 hz2 rfl (by decide) vo N ((vput n).map bv) rfl hown5 ⟨rp, 0, none⟩ mp kp ((vput la).map bv) rfl (by rw [HMP.out]; simp) (news_rd hrp) (one_bv _) (by unfold maxLen; omega) (by omega) (by omega) ?_; intro v6 w6 hown6 hg6 _ hat6; have hb6 : Below H3 w5 w6 := (Below.refl H3 w5).grown hg6 (by omega) (fun x hx => (hown5.lt x hx).1); have hra6 := hr3a'.below (HB5.out.trans hb6); have hs6 := hb6.size)
        | (refine wpList_append_own_at _ rfl (.tmp 39) (.tmp 40) 24 rfl H3 5 i0 (.int .u8 0) 1 1 Try.underlying24 hi hz0 hz1 hz2 rfl (by decide) _ (N + mp) _ rfl hown6 ⟨ra, 0, none⟩ la ka (a.map bv) rfl (by rw [HLA.out.1]; simp) (news_rd hra6) (one_bv _) (by unfold maxLen; omega) (by omega) (by omega) ?_; intro v7 w7 hown7 hg7 _ hat7; have hb7 : Below H3 w6 w7 := (Below.refl H3 w6).grown hg7 (by omega) (fun x hx => (hown6.lt x hx).1); have hs7 := hb7.size))
      refine (hqv w7).mono ?_
      rintro e w8 ⟨vq, rfl, hoq, hb8⟩
      obtain ⟨rq, kq, _, rfl, _⟩ := own_form hoq hvq.1
      have hrq := own_rd0 hoq
      have hown8 := own_kp (S := fun _ => False) hown7 (Kp.none_of_below hb8) (fun _ _ h => h)
      have hs8 := hb8.size
      have HB8 : Hid (Below H3 w3 w8) := HB5.out.trans (hb6.trans (hb7.trans (hb8.mono (by omega))))
      clear hoq hb8 hown7 hg7 hat7 hown6 hg6 hat6 hown5 hrp hra6 hb6 hb7 hqv
      go_wp2_with (at_builtin; first
        | (refine wpList_append_own_at _ rfl (.tmp 41) (.tmp 44) 24 rfl H3 5 i0 (.int .u8 0) 1 1 Try.underlying24 hi hz0 hz1 hz2 rfl (by decide) v7 (N + mp + la) _ rfl hown8 ⟨rq, 0, none⟩ mq kq ((vput lc).map bv) rfl (by rw [HMQ.out]; simp) (news_rd hrq) (one_bv _) (by unfold maxLen; omega) (by omega) (by omega) ?_; intro v9 w9 hown9 hg9 _ hat9; have hb9 : Below H3 w8 w9 := (Below.refl H3 w8).grown hg9 (by omega) (fun x hx => (hown8.lt x hx).1); have hrc9 := hr3c'.below (HB8.out.trans hb9); have hs9 := hb9.size)
        | (refine wpList_append_own_at _ rfl (.tmp 46) (.tmp 47) 24 rfl H3 5 i0 (.int .u8 0) 1 1 Try.underlying24 hi hz0 hz1 hz2 rfl (by decide) _ (N + mp + la + mq) _ rfl hown9 ⟨rc, 0, none⟩ lc kc (cc.map bv) rfl (by rw [HLA.out.2]; simp) (news_rd hrc9) (one_bv _) (by unfold maxLen; omega) (by omega) (by omega) ?_; intro v10 w10 hown10 hg10 _ hat10))
      have HF : Hid (w10.ownsRow w.heap.size 5 1 v10 (packCB l).length ((packCB l).map bv) ∧ Below w.heap.size w w10) := by
        have e : packCB l = (((vput n ++ vput la) ++ a) ++ vput lc) ++ cc := by
          unfold packCB
          rw [if_pos HE.out, HL.out, ← HAC.out.1, ← HAC.out.2, HLA.out.1, HLA.out.2]; simp [lenB]
        have el : (packCB l).length = N + mp + la + mq + lc := by
          rw [e]; simp only [List.length_append]; rw [← HN.out, ← HMP.out, ← HMQ.out, ← HLA.out.1, ← HLA.out.2]
        have hb10 : Below H3 w9 w10 := (Below.refl H3 w9).grown hg10 (by omega) (fun x hx => (hown9.lt x hx).1)
        rw [el, e]
        refine ⟨own_base ?_ HB3.out.2, HB3.out.1.trans ((HB8.out.trans (hb9.trans hb10)).mono HB3.out.2)⟩
        simpa using hown10
      clear hown10 hg10 hat10 hown9 hg9 hat9 hown8 hrq hrc9 hb9
      go_wp2_with fail
      go_ret2
      exact ⟨v10, by rw [HE.out]; rfl, HF.out.1, HF.out.2⟩
    · have HE : Hid (packCE l = PS.packE (fsts l) ∧ packCB l = []) := by
        have h1 : packCE l = PS.packE (fsts l) := by unfold packCE; rw [if_neg (by rw [HL.out]; omega)]
        exact ⟨h1, by unfold packCB; rw [if_neg (by rw [h1]; exact hE)]⟩
      have HB2 := Lib.hid (HB1.out.trans (hb2.mono HB1.out.size))
      obtain ⟨E, hEE⟩ : ∃ E, E = PS.packE (fsts l) := ⟨_, rfl⟩
      rw [← hEE] at hE HE ⊢
      have hEb : (E != 0) = true := by simpa using hE
      clear hE hEE hp hoa hb2
      go_wp2_with fail
      go_ret2
      exact ⟨.slice none 0 0, by rw [HE.out.1]; rfl, by rw [HE.out.2]; exact World.ownsRow_nil _ _ _ _, HB2.out⟩
end Go.Proofs.Ytnbamngancchmaa
