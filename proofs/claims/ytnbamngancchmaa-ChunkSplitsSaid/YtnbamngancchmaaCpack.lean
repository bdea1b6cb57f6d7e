/- What chunk.Pack answers: the error, and the bytes in new memory. Conditions: at most 10^9 samples. -/
import Derived.Test.YtnbamngancchmaaCols
import Derived.Test.YtnbamngancchmaaVint
import Derived.Test.YtnbamngancchmaaPack
namespace Go.Proofs.Ytnbamngancchmaa
open Go.RowKit PB PC

def packCE (l : List (Int × Int)) : Int := if l.length = 0 then 1 else PS.packE (fsts l)
/-- A number of bytes, and these. -/
def lenB (b : List Nat) : List Nat := vput b.length ++ b
def packCB (l : List (Int × Int)) : List Nat := if packCE l = 0 then (vput l.length ++ lenB (PS.packB (fsts l))) ++ lenB (PV.packBV (snds l)) else []
theorem fsts_len (l : List (Int × Int)) : (fsts l).length = l.length := by simp [fsts]
theorem snds_len (l : List (Int × Int)) : (snds l).length = l.length := by simp [snds]
theorem un_nat {n : Nat} (h : n < 9223372036854775808) : PV.un (n : Int) = n := by unfold PV.un; omega
theorem packCE_zero {l : List (Int × Int)} (h : packCE l = 0) : 0 < l.length ∧ l.length ≤ 120 ∧ PS.packE (fsts l) = 0 ∧ PV.packEV (snds l) = 0 := by
  unfold packCE at h
  split at h
  · cases h
  · have h1 := PS.packE_zero.1 h
    rw [fsts_len] at h1
    refine ⟨by omega, h1.1, h, ?_⟩
    unfold PV.packEV; rw [if_neg (by rw [snds_len]; omega)]
theorem news_rd {w : World} {B b off m : Nat} {xs : List Value} (h : Rd w B (some ⟨b, off, none⟩) m xs) : ∀ j u, xs[j]? = some u → w.cell? ((⟨b, off, none⟩ : Addr).add j) = some u := by
  intro j u hu
  have hj := (List.getElem?_eq_some_iff.1 hu).1
  obtain ⟨b', off', e, _, hc⟩ := h.2 (by have := h.1; omega)
  injection e with e
  injection e with e1 e2
  subst e1 e2
  have e : (⟨b, off, none⟩ : Addr).add j = ⟨b, off + j, none⟩ := by unfold Addr.add; split <;> simp_all
  rw [e]; exact hc j u hu
theorem own_rd0 {w : World} {base r cap n : Nat} {e : TypeId} {xs : List Value} (h : w.ownsRow base e 1 (.slice (some ⟨r, 0, none⟩) n cap) n xs) : Rd w w.heap.size (some ⟨r, 0, none⟩) n xs := by
  refine ⟨by have := h.1; omega, fun hn => ⟨r, 0, rfl, (h.lt r rfl).2, fun j u hu => ?_⟩⟩
  rw [Nat.zero_add]
  exact own_cell h hu
theorem one_bv (l : List Nat) : ∀ u ∈ l.map bv, u.oneCell' = true := by intro u hu; simp only [List.mem_map] at hu; obtain ⟨x, _, rfl⟩ := hu; rfl
theorem packB_pos {l : List Int} (h : PS.packE l = 0) (hl : 0 < l.length) : 0 < (PS.packB l).length := by
  unfold PS.packB
  rw [if_pos h, bytesOf_length]
  obtain ⟨k, hk⟩ : ∃ k, l.length = k + 1 := ⟨l.length - 1, by omega⟩
  have : ∀ k, 64 ≤ (PS.enc l (k + 1)).length := by
    intro k
    induction k with
    | zero => rw [PS.enc_succ, List.length_append]; have : (PS.encAt l 0).length = 64 := by unfold PS.encAt; rw [if_pos rfl, putBits_length]
              omega
    | succ k ih => rw [PS.enc_succ, List.length_append]; omega
  have := this k
  rw [hk]; omega
theorem packBV_pos {l : List Int} (h : PV.packEV l = 0) (hl : 0 < l.length) : 0 < (PV.packBV l).length := by
  unfold PV.packBV
  rw [if_pos h, bytesOf_length]
  obtain ⟨k, hk⟩ : ∃ k, l.length = k + 1 := ⟨l.length - 1, by omega⟩
  have : ∀ k, 64 ≤ (PV.encV l (k + 1)).1.length := by
    intro k
    induction k with
    | zero => rw [PV.encV_one]; simp [putBits_length]
    | succ k ih => rw [PV.encV_succ l (by omega)]; simp only [List.length_append]; omega
  have := this k
  rw [hk]; omega
theorem packB_small (L : List Int) : (PS.packB L).length ≤ 10000 := by
  unfold PS.packB
  split
  · rename_i h
    have h1 := PS.packE_zero.1 h
    have h2 := PS.enc_le L L.length
    rw [bytesOf_length]; omega
  · simp
theorem packBV_small (L : List Int) : (PV.packBV L).length ≤ 10000 := by
  unfold PV.packBV
  split
  · rename_i h
    have h1 : L.length ≤ 120 := by
      unfold PV.packEV at h
      split at h
      · cases h
      · omega
    have h2 := PV.encV_le L L.length
    rw [bytesOf_length]; omega
  · simp

/-- What Pack answers. -/
def CPost (w : World) (l : List (Int × Int)) (r : Ending) (w' : World) : Prop :=
  ∃ v, r = .returned (.tuple #[v, .int .i64 (packCE l)]) ∧ w'.ownsRow w.heap.size 5 1 v (packCB l).length ((packCB l).map bv) ∧ Below w.heap.size w w'
def partsB (n : Nat) (a c : List Nat) : Nat → List Nat | 0 => vput n | 1 => vput n ++ lenB a | _ => (vput n ++ lenB a) ++ lenB c

theorem parts_small {n : Nat} {a c : List Nat} (hn : (vput n).length ≤ 11) (ha : a.length ≤ 10000) (hc : c.length ≤ 10000) (k : Nat) (hk : k ≤ 1) : (partsB n a c k).length ≤ 20000 := by
  have h1 := vput_len a.length
  obtain rfl | rfl : k = 0 ∨ k = 1 := by omega
  · show (vput n).length ≤ _; omega
  · show (vput n ++ (vput a.length ++ a)).length ≤ _; simp only [List.length_append]; omega
theorem idx100_0 (ra la ka rc lc kc : Nat) (w : World) : (Instr.index 100 (.agg #[.slice (some ⟨ra, 0, none⟩) la ka, .slice (some ⟨rc, 0, none⟩) lc kc]) (.int .i64 0)).run Try.prog w = .ok (.slice (some ⟨ra, 0, none⟩) la ka) w := by
  kernel_rfl
theorem idx100_1 (ra la ka rc lc kc : Nat) (w : World) : (Instr.index 100 (.agg #[.slice (some ⟨ra, 0, none⟩) la ka, .slice (some ⟨rc, 0, none⟩) lc kc]) (.int .i64 1)).run Try.prog w = .ok (.slice (some ⟨rc, 0, none⟩) lc kc) w := by
  kernel_rfl

set_option maxRecDepth 100000 in
set_option maxHeartbeats 1000000 in
theorem cpack_any (A : Option Addr) (n c B : Nat) (l : List (Int × Int)) (w : World) (hr : Rs2 w B A n l) (hB : B ≤ w.heap.size) (hn : n ≤ 1000000000) :
    Calls Try.prog 30 #[.slice A n c] w (CPost w l) := by
  obtain ⟨i0, hi, hz0, hz1, hz2⟩ := info_parts Try.info5
  have hl := hr.1
  have hcols := columns_any A n c B l w hr hB hn
  by_cases hn0 : n = 0
  · have HE : Hid (packCE l = 1 ∧ packCB l = []) := by
      have h1 : packCE l = 1 := by unfold packCE; rw [if_pos (by omega)]
      exact ⟨h1, by unfold packCB; rw [if_neg (by rw [h1]; decide)]⟩
    subst hn0
    clear hl hcols
    go_enter Try.func30, Try.ntmps30
    go_wp2_with fail
    go_ret2
    exact ⟨.slice none 0 0, by rw [HE.out.1]; rfl, by rw [HE.out.2]; exact World.ownsRow_nil _ _ _ _, Below.refl _ _⟩
  · have hnb : ((n : Int) == 0) = false := by simp; omega
    have hn1 : 0 < n := by omega
    have HL := Lib.hid hl
    clear hl
    go_enter Try.func30, Try.ntmps30
    go_wp2_with fail
    refine hcols.mono ?_
    rintro e w1 ⟨v1, v2, rfl, ho1, ho2, hb1⟩
    obtain ⟨A1, c1, rfl, hr1, _⟩ := Rd.of_own ho1
    obtain ⟨A2, c2, rfl, hr2, _⟩ := Rd.of_own ho2
    have hp := pack_any A1 n c1 w1.heap.size (fsts l) w1 hr1 (Nat.le_refl _) hn
    have HB1 := Lib.hid hb1
    have HR2 := Lib.hid hr2
    clear hcols ho1 ho2 hr1 hr2 hb1
    go_wp2_with fail
    refine hp.mono ?_
    rintro e w2 ⟨va, rfl, hoa, hb2⟩
    by_cases hE : PS.packE (fsts l) = 0
    · have HE : Hid (packCE l = 0) := by show _ = _; unfold packCE; rw [if_neg (by rw [HL.out]; omega)]; exact hE
      have hz := packCE_zero HE.out
      have hpos := packB_pos hE (by rw [fsts_len, HL.out]; exact hn1)
      have hposV := packBV_pos hz.2.2.2 (by rw [snds_len, HL.out]; exact hn1)
      have hsa := packB_small (fsts l)
      have hsc := packBV_small (snds l)
      have hn120 : n ≤ 120 := by have := hz.2.1; rw [HL.out] at this; exact this
      have hq := vpack_any A2 n c2 w1.heap.size (snds l) w2 (HR2.out.below hb2) hb2.size hn
      unfold VPost at hq
      rw [hz.2.2.2] at hq
      rw [hE]
      obtain ⟨a, ha⟩ : ∃ a, a = PS.packB (fsts l) := ⟨_, rfl⟩
      obtain ⟨cc, hcc⟩ : ∃ cc, cc = PV.packBV (snds l) := ⟨_, rfl⟩
      rw [← ha] at hoa hpos hsa
      rw [← hcc] at hq hposV hsc
      have HAC := Lib.hid (And.intro ha hcc)
      obtain ⟨la, hla⟩ : ∃ la, la = a.length := ⟨_, rfl⟩
      obtain ⟨lc, hlc⟩ : ∃ lc, lc = cc.length := ⟨_, rfl⟩
      rw [← hla] at hoa hpos hsa
      rw [← hlc] at hq hposV hsc
      have HLA := Lib.hid (And.intro hla hlc)
      obtain ⟨ra, ka, _, rfl, _⟩ := own_form hoa hpos
      have HOA := Lib.hid hoa
      have HB2 := Lib.hid (HB1.out.trans (hb2.mono HB1.out.size))
      clear hz hE ha hcc hla hlc hp hoa hb2
      go_wp2_with fail
      refine hq.mono ?_
      rintro e w3 ⟨vc, rfl, hoc, hb3⟩
      obtain ⟨rc, kc, _, rfl, _⟩ := own_form hoc hposV
      have hr3c := own_rd0 hoc
      have hr3a := (own_rd0 HOA.out).below hb3
      obtain ⟨H3, hH3⟩ : ∃ H, H = w3.heap.size := ⟨_, rfl⟩
      have HR : Hid (Rd w3 H3 (some ⟨ra, 0, none⟩) la (a.map bv) ∧ Rd w3 H3 (some ⟨rc, 0, none⟩) lc (cc.map bv) ∧ Below w.heap.size w w3) := by
        rw [hH3]; exact ⟨hr3a.more hb3.size, hr3c, HB2.out.trans (hb3.mono HB2.out.size)⟩
      have HH3 : Hid (H3 = w3.heap.size) := hH3
      have hq3 := vint_put (n : Int) w3
      unfold VpPost at hq3
      rw [un_nat (show n < 9223372036854775808 by omega)] at hq3
      clear hq hoc hb3 hr3c hr3a
      go_wp2_with fail
      refine hq3.mono ?_
      rintro e w4 ⟨vo, rfl, hoo, hb4⟩
      rw [← hH3] at hoo hb4
      have hvn := vput_len n
      have hidx0 := idx100_0 ra la ka rc lc kc
      have hidx1 := idx100_1 ra la ka rc lc kc
      have HO4 := Lib.hid hoo
      clear hq3 hoo
      go_wp2_with fail
      go_loopw [9, 42] (fun v i wr => ∃ k : Nat, k ≤ 2 ∧ i = .int .i64 k ∧ Hid (wr.ownsRow H3 5 1 v (partsB n a cc k).length ((partsB n a cc k).map bv) ∧ Below H3 w3 wr)) (fun _ i _ => 2 - (intOf i).toNat)
      case atStart => exact ⟨0, by omega, rfl, HO4.out, hb4⟩
      case round =>
        obtain ⟨k, hk, rfl, HK⟩ := hrel
        clear hb4 HO4
        have hsz3 : H3 ≤ wr.heap.size := by have h1 := HK.out.2.size; have h2 := HH3.out; omega
        have hk3 : k = 0 ∨ k = 1 ∨ k = 2 := by omega
        rcases hk3 with rfl | rfl | rfl
        · have hown := HK.out.1
          have hra := HR.out.1.below HK.out.2
          have hsz := HK.out.2.size
          obtain ⟨N, hN⟩ : ∃ N, N = (partsB n a cc 0).length := ⟨_, rfl⟩
          have hNb : N ≤ 20000 := by rw [hN]; exact parts_small hvn.2 (by have := HLA.out; omega) (by have := HLA.out; omega) 0 (by omega)
          rw [← hN] at hown
          have HN := Lib.hid hN
          have hq := vint_put (la : Int) wr
          unfold VpPost at hq
          rw [un_nat (show la < 9223372036854775808 by omega)] at hq
          have hvm := vput_len la
          clear hN
          go_wp2_with fail
          refine hq.mono ?_
          rintro e w5 ⟨vp, rfl, hop, hb5⟩
          obtain ⟨mp, hmp⟩ : ∃ mp, mp = (vput la).length := ⟨_, rfl⟩
          rw [← hmp] at hop hvm
          obtain ⟨rp, kp, _, rfl, _⟩ := own_form hop hvm.1
          have hrp := own_rd0 hop
          have hown5 := own_kp (S := fun _ => False) hown (Kp.none_of_below hb5) (fun _ _ h => h)
          have hs5 := hb5.size
          have HB5 : Hid (Below H3 wr w5) := hb5.mono hsz3
          have HMP := Lib.hid hmp
          clear hq hop hb5 hown hmp
          go_wp2_with (first | (at_builtin; refine wpList_append_own_at _ rfl (.tmp 45) (.tmp 48) 24 rfl H3 5 i0 (.int .u8 0) 1 1 Try.underlying24 hi hz0 hz1 hz2 rfl (by decide) u9 N ((partsB n a cc 0).map bv) rfl hown5 ⟨rp, 0, none⟩ mp kp ((vput la).map bv) rfl (by rw [HMP.out]; simp) (news_rd hrp) (one_bv _) (by unfold maxLen; omega) (by omega) (by omega) ?_; intro v6 w6 hown6 hg6 _ hat6; have hb6 : Below H3 w5 w6 := (Below.refl H3 w5).grown hg6 (by omega) (fun x hx => (hown5.lt x hx).1); have hra6 := hra.below (HB5.out.trans hb6); have hs6 := hb6.size) | (at_builtin; refine wpList_append_own_at _ rfl (.tmp 49) (.tmp 50) 24 rfl H3 5 i0 (.int .u8 0) 1 1 Try.underlying24 hi hz0 hz1 hz2 rfl (by decide) _ (N + mp) _ rfl hown6 ⟨ra, 0, none⟩ la ka (a.map bv) rfl (by rw [HLA.out.1]; simp) (news_rd hra6) (one_bv _) (by unfold maxLen; omega) (by omega) (by omega) ?_; intro v7 w7 hown7 hg7 _ hat7))
          have HK7 : Hid (w7.ownsRow H3 5 1 v7 (partsB n a cc (0 + 1)).length ((partsB n a cc (0 + 1)).map bv) ∧ Below H3 w3 w7) := by
            refine ⟨?_, HK.out.2.trans (HB5.out.trans (hb6.trans ((Below.refl H3 w6).grown hg7 (by omega) (fun x hx => (hown6.lt x hx).1))))⟩
            have e : partsB n a cc (0 + 1) = (partsB n a cc 0 ++ vput la) ++ a := by rw [HLA.out.1]; simp [partsB, lenB]
            have el : (partsB n a cc (0 + 1)).length = N + mp + la := by rw [e, HN.out, HMP.out]; simp only [List.length_append]; rw [← HLA.out.1]
            rw [el, e]
            simpa using hown7
          clear hown7 hg7 hat7 hown6 hg6 hat6 hown5 hrp hra hra6 hb6
          go_wp2_with fail
          go_roundw
          case rel => exact ⟨0 + 1, by omega, by go_num, HK7.out⟩
          case measure => simp [intOf]
        · have hown := HK.out.1
          have hra := HR.out.2.1.below HK.out.2
          have hsz := HK.out.2.size
          obtain ⟨N, hN⟩ : ∃ N, N = (partsB n a cc 1).length := ⟨_, rfl⟩
          have hNb : N ≤ 20000 := by rw [hN]; exact parts_small hvn.2 (by have := HLA.out; omega) (by have := HLA.out; omega) 1 (by omega)
          rw [← hN] at hown
          have HN := Lib.hid hN
          have hq := vint_put (lc : Int) wr
          unfold VpPost at hq
          rw [un_nat (show lc < 9223372036854775808 by omega)] at hq
          have hvm := vput_len lc
          clear hN
          go_wp2_with fail
          refine hq.mono ?_
          rintro e w5 ⟨vp, rfl, hop, hb5⟩
          obtain ⟨mp, hmp⟩ : ∃ mp, mp = (vput lc).length := ⟨_, rfl⟩
          rw [← hmp] at hop hvm
          obtain ⟨rp, kp, _, rfl, _⟩ := own_form hop hvm.1
          have hrp := own_rd0 hop
          have hown5 := own_kp (S := fun _ => False) hown (Kp.none_of_below hb5) (fun _ _ h => h)
          have hs5 := hb5.size
          have HB5 : Hid (Below H3 wr w5) := hb5.mono hsz3
          have HMP := Lib.hid hmp
          clear hq hop hb5 hown hmp
          go_wp2_with (first | (at_builtin; refine wpList_append_own_at _ rfl (.tmp 45) (.tmp 48) 24 rfl H3 5 i0 (.int .u8 0) 1 1 Try.underlying24 hi hz0 hz1 hz2 rfl (by decide) u9 N ((partsB n a cc 1).map bv) rfl hown5 ⟨rp, 0, none⟩ mp kp ((vput lc).map bv) rfl (by rw [HMP.out]; simp) (news_rd hrp) (one_bv _) (by unfold maxLen; omega) (by omega) (by omega) ?_; intro v6 w6 hown6 hg6 _ hat6; have hb6 : Below H3 w5 w6 := (Below.refl H3 w5).grown hg6 (by omega) (fun x hx => (hown5.lt x hx).1); have hra6 := hra.below (HB5.out.trans hb6); have hs6 := hb6.size) | (at_builtin; refine wpList_append_own_at _ rfl (.tmp 49) (.tmp 50) 24 rfl H3 5 i0 (.int .u8 0) 1 1 Try.underlying24 hi hz0 hz1 hz2 rfl (by decide) _ (N + mp) _ rfl hown6 ⟨rc, 0, none⟩ lc kc (cc.map bv) rfl (by rw [HLA.out.2]; simp) (news_rd hra6) (one_bv _) (by unfold maxLen; omega) (by omega) (by omega) ?_; intro v7 w7 hown7 hg7 _ hat7))
          have HK7 : Hid (w7.ownsRow H3 5 1 v7 (partsB n a cc (1 + 1)).length ((partsB n a cc (1 + 1)).map bv) ∧ Below H3 w3 w7) := by
            refine ⟨?_, HK.out.2.trans (HB5.out.trans (hb6.trans ((Below.refl H3 w6).grown hg7 (by omega) (fun x hx => (hown6.lt x hx).1))))⟩
            have e : partsB n a cc (1 + 1) = (partsB n a cc 1 ++ vput lc) ++ cc := by rw [HLA.out.2]; simp [partsB, lenB]
            have el : (partsB n a cc (1 + 1)).length = N + mp + lc := by rw [e, HN.out, HMP.out]; simp only [List.length_append]; rw [← HLA.out.2]
            rw [el, e]
            simpa using hown7
          clear hown7 hg7 hat7 hown6 hg6 hat6 hown5 hrp hra hra6 hb6
          go_wp2_with fail
          go_roundw
          case rel => exact ⟨1 + 1, by omega, by go_num, HK7.out⟩
          case measure => simp [intOf]
        · have HF : Hid (wr.ownsRow w.heap.size 5 1 u9 (packCB l).length ((packCB l).map bv) ∧ Below w.heap.size w wr) := by
            have e : packCB l = partsB n a cc 2 := by
              unfold packCB
              rw [if_pos HE.out, HL.out, ← HAC.out.1, ← HAC.out.2]; rfl
            rw [e]
            exact ⟨own_base HK.out.1 (by have := HR.out.2.2.size; have := HH3.out; omega), HR.out.2.2.trans (HK.out.2.mono (by have := HR.out.2.2.size; have := HH3.out; omega))⟩
          clear HK
          go_wp2_with fail
          go_ret2
          exact ⟨u9, by rw [HE.out]; rfl, HF.out.1, HF.out.2⟩
    · have HE : Hid (packCE l = PS.packE (fsts l) ∧ packCB l = []) := by
        have h1 : packCE l = PS.packE (fsts l) := by unfold packCE; rw [if_neg (by rw [HL.out]; omega)]
        exact ⟨h1, by unfold packCB; rw [if_neg (by rw [h1]; exact hE)]⟩
      have HB2 := Lib.hid (HB1.out.trans (hb2.mono HB1.out.size))
      obtain ⟨E, hEE⟩ : ∃ E, E = PS.packE (fsts l) := ⟨_, rfl⟩
      rw [← hEE] at hE HE ⊢
      have hEb : (E != 0) = true := by simpa using hE
      clear hE hEE hp hoa hb2
      go_wp2_with fail
      go_ret2
      exact ⟨.slice none 0 0, by rw [HE.out.1]; rfl, by rw [HE.out.2]; exact World.ownsRow_nil _ _ _ _, HB2.out⟩
end Go.Proofs.Ytnbamngancchmaa
