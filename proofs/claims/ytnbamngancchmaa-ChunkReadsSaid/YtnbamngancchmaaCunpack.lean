/- What chunk.Unpack answers: the samples at the head of bytes, or that there are none. Conditions: at most 10^8 bytes, each below 256. -/
import Derived.Test.YtnbamngancchmaaChunk
import Derived.Test.YtnbamngancchmaaPrefix
import Derived.Test.YtnbamngancchmaaUnpack
namespace Go.Proofs.Ytnbamngancchmaa
open Go.RowKit PB PC

def ucS (l : List Nat) : List (Int × Int) := match unpackC l with | some (s, _) => s | none => []
def ucK (l : List Nat) : Int := match unpackC l with | some (_, e) => (e : Int) | none => 0
def ucE (l : List Nat) : Int := match unpackC l with | some _ => 0 | none => 5
/-- What Unpack answers. -/
def UCPost (w : World) (l : List Nat) (r : Ending) (w' : World) : Prop :=
  ∃ v, r = .returned (.tuple #[v, .int .i64 (ucK l), .int .i64 (ucE l)]) ∧ w'.ownsRow w.heap.size 43 2 v (ucS l).length (sc (ucS l)) ∧ Below w.heap.size w w'
theorem uc_no {w w' : World} {l : List Nat} (h : unpackC l = none) (hb : Below w.heap.size w w') : UCPost w l (.returned (.tuple #[.slice none 0 0, .int .i64 0, .int .i64 5])) w' := by
  unfold UCPost ucS ucK ucE
  rw [h]
  exact ⟨_, rfl, World.ownsRow_nil _ _ _ _, hb⟩
theorem uc_ok {w w' : World} {l : List Nat} {s : List (Int × Int)} {e n : Nat} {v : Value} (h : unpackC l = some (s, e)) (hn : s.length = n) (ho : w'.ownsRow w.heap.size 43 2 v n (sc s)) (hb : Below w.heap.size w w') : UCPost w l (.returned (.tuple #[v, .int .i64 (e : Int), .int .i64 0])) w' := by
  subst hn
  unfold UCPost ucS ucK ucE
  rw [h]
  exact ⟨_, rfl, ho, hb⟩
theorem none60 (w : World) : Calls Try.prog 60 #[] w fun e w' => e = .returned (.tuple #[.slice none 0 0, .int .i64 0, .int .i64 5]) ∧ w' = w := by
  go_enter Try.func60, Try.ntmps60
  go_wp2_with fail
  go_ret3
  exact ⟨rfl, rfl⟩

theorem unpackE_ne {x : List Nat} {U : Int} (h : unpackE x U ≠ 0) : (U < 1 ∨ 120 < U) ∨ PS.unpack x U.toNat = none := by
  unfold unpackE at h
  split at h
  · exact Or.inl (Or.inr (by assumption))
  · split at h
    · exact Or.inl (Or.inl (by omega))
    · cases hu : PS.unpack x U.toNat with
      | none => exact Or.inr rfl
      | some t => rw [hu] at h; exact absurd rfl h
theorem unpackE_eq {x : List Nat} {U : Int} (h : unpackE x U = 0) : 0 ≤ U ∧ U ≤ 120 ∧ ∃ t, PS.unpack x U.toNat = some t ∧ unpackL x U = t := by
  unfold unpackE at h
  split at h
  · cases h
  · rename_i h1
    split at h
    · cases h
    · rename_i h2
      cases hu : PS.unpack x U.toNat with
      | none => rw [hu] at h; cases h
      | some t => exact ⟨by omega, by omega, t, rfl, by unfold unpackL; rw [if_neg h1, if_neg h2, hu]; rfl⟩
theorem unpackVE_ne {x : List Nat} {U : Int} (h : unpackVE x U ≠ 0) : (U < 1 ∨ 120 < U) ∨ PV.unpackV none x U.toNat = none := by
  unfold unpackVE at h
  split at h
  · exact Or.inl (Or.inr (by assumption))
  · split at h
    · exact Or.inl (Or.inl (by omega))
    · cases hu : PV.unpackV none x U.toNat with
      | none => exact Or.inr rfl
      | some t => rw [hu] at h; exact absurd rfl h
theorem unpackVE_eq {x : List Nat} {U : Int} (h : unpackVE x U = 0) : 0 ≤ U ∧ U ≤ 120 ∧ ∃ t, PV.unpackV none x U.toNat = some t ∧ unpackVL x U = t := by
  unfold unpackVE at h
  split at h
  · cases h
  · rename_i h1
    split at h
    · cases h
    · rename_i h2
      cases hu : PV.unpackV none x U.toNat with
      | none => rw [hu] at h; cases h
      | some t => exact ⟨by omega, by omega, t, rfl, by unfold unpackVL; rw [if_neg h1, if_neg h2, hu]; rfl⟩
theorem zip_take {t v : List Int} {k : Nat} (h1 : k < t.length) (h2 : k < v.length) : (t.zip v).take (k + 1) = (t.zip v).take k ++ [(t.getD k 0, v.getD k 0)] := by
  have h : k < (t.zip v).length := by rw [List.length_zip]; omega
  rw [List.take_succ_eq_append_getElem h]
  simp only [List.getElem_zip, List.getD, List.getElem?_eq_getElem h1, List.getElem?_eq_getElem h2, Option.getD_some]
theorem cutL_nil : cutL [] = none := rfl

set_option maxRecDepth 100000 in
set_option maxHeartbeats 2000000 in
theorem cunpack_any (A : Option Addr) (n c B : Nat) (l : List Nat) (w : World) (hr : Rd w B A n (l.map bv)) (hB : B ≤ w.heap.size) (hnc : n ≤ c) (hcm : c ≤ maxLen) (hn : n ≤ 100000000) (hb : ∀ x ∈ l, x < 256) :
    Calls Try.prog 34 #[.slice A n c] w (UCPost w l) := by
  obtain ⟨i0, hi, hz0, hz1, hz2⟩ := info_parts Try.info43
  have hl := hr.blen
  have hq := vint_get A n c B l w hr (by omega) hb
  have HL := Lib.hid hl
  have HR := Lib.hid hr
  have HB := Lib.hid hb
  have hcm' : c ≤ 9223372036854775807 := hcm
  have HCM := Lib.hid hcm
  clear hr hb hcm hl
  cases hv : vget l with
  | none =>
    have HP := Lib.hid (unpackC_n1 hv)
    unfold VgPost VgV VgK VgE at hq
    rw [hv] at hq
    simp only [Option.isSome_none, Bool.false_eq_true, if_false] at hq
    clear hv
    go_enter Try.func34, Try.ntmps34
    go_wp2_with fail
    refine hq.mono ?_
    rintro e w1 ⟨rfl, rfl⟩
    go_wp2_with (go_at_call 60; refine (none60 _).mono ?_; rintro e w' ⟨rfl, rfl⟩)
    go_ret3
    exact uc_no HP.out (Below.refl _ _)
  | some uk =>
    obtain ⟨u, k⟩ := uk
    obtain ⟨hu64, hkk, hkl, _⟩ := vget_back HB.out hv
    clear hkk
    rw [HL.out] at hkl
    have HV := Lib.hid hv
    unfold VgPost VgV VgK VgE at hq
    rw [hv] at hq
    simp only [Option.isSome_some, if_true] at hq
    clear hv
    obtain ⟨U, hU⟩ : ∃ U, U = wrap64 (u : Int) := ⟨_, rfl⟩
    have hUb : -9223372036854775808 ≤ U ∧ U ≤ 9223372036854775807 := by rw [hU]; unfold wrap64; omega
    rw [← hU] at hq
    have HU := Lib.hid hU
    have hk0 : 0 < n := by
      rcases Nat.eq_zero_or_pos n with h | h
      · exfalso
        have : l = [] := List.eq_nil_of_length_eq_zero (by rw [HL.out]; exact h)
        have h2 := HV.out
        rw [this] at h2
        cases h2
      · exact h
    obtain ⟨b, off, rfl, hbB, _⟩ := HR.out.2 hk0
    clear hU
    -- the slice behind the number
    have hsub := HR.out.sub (k := k) (m := n - k) (by omega)
    rw [List.take_of_length_le (by rw [List.length_drop, HL.out]; exact Nat.le_refl _)] at hsub
    have hbd : ∀ x ∈ l.drop k, x < 256 := fun x hx => HB.out x (List.mem_of_mem_drop hx)
    have HS := Lib.hid hsub
    have HDL : Hid ((l.drop k).length = n - k) := by show _ = _; rw [List.length_drop, HL.out]
    have HQP : Hid (∀ (A' : Option Addr) (m' c' : Nat), Rd w B A' m' ((l.drop k).map bv) → m' ≤ c' → c' ≤ maxLen → m' ≤ 1000000000 → Calls Try.prog 62 #[.slice A' m' c'] w (PartPost w B m' (l.drop k))) := fun A' m' c' h h1 h2 h3 => part_any A' m' c' B (l.drop k) w h h1 h2 h3 hbd
    clear hsub hbd
    by_cases hck : k < c
    · go_enter Try.func34, Try.ntmps34
      go_wp2_with fail
      refine hq.mono ?_
      rintro e w1 ⟨rfl, rfl⟩
      go_wp2_with fail
      refine (HQP.out _ (n - k) _ HS.out (by omega) (by have := HCM.out; omega) (by omega)).mono ?_
      rintro e w2 ⟨⟨nq, hw2⟩, ⟨hc, rfl⟩ | ⟨x, e1, A1, A2, c1, c2, hc, he1, rfl, hr1, hc1, hr2, hc2, hc3⟩⟩
      · have HP := Lib.hid (unpackC_n3 HV.out hc)
        have HW2 : Hid (Below w1.heap.size w1 w2) := by rw [hw2]; exact below_drewN (Below.refl _ _) nq
        clear hc hw2
        go_wp2_with (go_at_call 60; refine (none60 _).mono ?_; rintro e w' ⟨rfl, rfl⟩)
        go_ret3
        exact uc_no HP.out HW2.out
      · have HC1 := Lib.hid hc
        have HW2 : Hid (w2 = w1.drewN nq) := hw2
        have HR1 : Hid (Rd w2 B A1 x.length (x.map bv)) := by rw [hw2]; exact hr1
        have hr2' : Rd w2 B A2 (n - k - e1) (((l.drop k).drop e1).map bv) := by rw [hw2]; exact hr2
        have hxb : ∀ y ∈ x, y < 256 := (cutL_lt (fun y hy => HB.out y (List.mem_of_mem_drop hy)) hc).2.2
        have hq2 := part_any A2 (n - k - e1) c2 B ((l.drop k).drop e1) w2 hr2' hc2 hc3 (by omega) (fun y hy => HB.out y (List.mem_of_mem_drop (List.mem_of_mem_drop hy)))
        have hxl := HR1.out.blen
        have hxs : x.length ≤ 100000000 := by
          have := (cutL_lt (fun y hy => HB.out y (List.mem_of_mem_drop hy)) hc)
          have h2 := congrArg List.length this.2.1
          unfold lenB at h2
          rw [List.length_take, List.length_append, HDL.out] at h2
          omega
        obtain ⟨lx, hlx⟩ : ∃ lx, lx = x.length := ⟨_, rfl⟩
        rw [← hlx] at HR1 hxs hc1 ⊢
        have HLX := Lib.hid hlx
        clear hc hw2 hr1 hr2 hr2' hxl hlx
        go_wp2_with fail
        refine hq2.mono ?_
        rintro e w3 ⟨⟨nq2, hw3⟩, ⟨hc, rfl⟩ | ⟨y, e2, A3, A4, c4, c5, hc, he2, rfl, hr3, hc4, _, _, _⟩⟩
        · rw [List.drop_drop] at hc
          have HP := Lib.hid (unpackC_n4 HV.out HC1.out hc)
          have HW3 : Hid (Below w1.heap.size w1 w3) := by rw [hw3, HW2.out]; exact below_drewN (below_drewN (Below.refl _ _) nq) nq2
          clear hc hw3
          go_wp2_with (go_at_call 60; refine (none60 _).mono ?_; rintro e w' ⟨rfl, rfl⟩)
          go_ret3
          exact uc_no HP.out HW3.out
        · have hyb : ∀ z ∈ y, z < 256 := (cutL_lt (fun z hz => HB.out z (List.mem_of_mem_drop (List.mem_of_mem_drop hz))) hc).2.2
          have hys : y.length ≤ 100000000 := by
            have := (cutL_lt (fun z hz => HB.out z (List.mem_of_mem_drop (List.mem_of_mem_drop hz))) hc)
            have h2 := congrArg List.length this.2.1
            unfold lenB at h2
            rw [List.length_take, List.length_append, List.length_drop, HDL.out] at h2
            omega
          rw [List.drop_drop] at hc
          have HC2 := Lib.hid hc
          have HW3 : Hid (Below w1.heap.size w1 w3 ∧ w1.heap.size = w3.heap.size) := by rw [hw3, HW2.out]; exact ⟨below_drewN (below_drewN (Below.refl _ _) nq) nq2, rfl⟩
          have hr1' : Rd w3 B A1 lx (x.map bv) := by rw [hw3]; exact HR1.out
          have HR3 : Hid (Rd w3 B A3 y.length (y.map bv)) := by rw [hw3]; exact hr3
          have hB3 : B ≤ w3.heap.size := by have := HW3.out.2; omega
          obtain ⟨ly, hly⟩ : ∃ ly, ly = y.length := ⟨_, rfl⟩
          rw [← hly] at HR3 hys hc4 ⊢
          have hq3 := unpack_any A1 lx c1 B U x w3 hr1' hB3 (by omega) hxb
          clear hc hw3 hr1' hr3 hly hq2
          go_wp2_with fail
          refine hq3.mono ?_
          rintro e w4 ⟨vt, rfl, ho4, hb4⟩
          have HB4 := Lib.hid hb4
          have hB4 : B ≤ w4.heap.size := Nat.le_trans hB3 hb4.size
          by_cases hE1 : unpackE x U = 0
          · rw [hE1]
            obtain ⟨hU0, hU1, t, htu, htl⟩ := unpackE_eq hE1
            rw [htl] at ho4
            have hq4 := vunpack_any A3 ly c4 B U y w4 (HR3.out.below (hb4.mono hB3)) hB4 (by omega) hyb
            have HT := Lib.hid htu
            have HO4 := Lib.hid ho4
            clear hE1 htu htl hq3 ho4 hb4
            go_wp2_with fail
            refine hq4.mono ?_
            rintro e w5 ⟨vv, rfl, ho5, hb5⟩
            have HB5 := Lib.hid hb5
            by_cases hE2 : unpackVE y U = 0
            · rw [hE2]
              obtain ⟨_, _, v, hvu, hvl⟩ := unpackVE_eq hE2
              rw [hvl] at ho5
              have HVU := Lib.hid hvu
              have hl1 := (unpack_some HT.out).1
              have hl2 := (unpackV_some hvu).1
              obtain ⟨M, hM⟩ : ∃ M, M = U.toNat := ⟨_, rfl⟩
              rw [← hM] at hl1 hl2
              rw [hl2] at ho5
              have ho4 := HO4.out
              rw [hl1] at ho4
              obtain ⟨At, ct, rfl, hrt, _⟩ := Rd.of_own ho4
              obtain ⟨Av, cv, rfl, hrv, _⟩ := Rd.of_own ho5
              have HRT : Hid (Rd w5 w5.heap.size At M (ints t)) := (hrt.below hb5).more hb5.size
              have HRV := Lib.hid hrv
              have HM := Lib.hid hM
              have hMb : M ≤ 120 := by omega
              have HLL := Lib.hid (And.intro hl1 hl2)
              have HBW : Hid (Below w1.heap.size w1 w5 ∧ w1.heap.size ≤ w5.heap.size) := by
                have h1 := HW3.out.1.size
                have h2 := HB4.out.size
                have h3 := hb5.size
                exact ⟨HW3.out.1.trans ((HB4.out.mono h1).trans (hb5.mono (by omega))), by omega⟩
              clear hE2 hvu hvl hq4 ho5 ho4 hb5 hrt hrv hM hl1 hl2
              go_wp2_with fail
              go_loopw [16, 89] (fun s i wr => ∃ k : Nat, k ≤ M ∧ i = .int .i64 k ∧ Hid (wr.ownsRow w5.heap.size 43 2 s k (sc ((t.zip v).take k)) ∧ Below w5.heap.size w5 wr)) (fun _ i _ => M - (intOf i).toNat)
              case atStart => exact ⟨0, Nat.zero_le _, rfl, World.ownsRow_nil _ _ _ _, Below.refl _ _⟩
              case round =>
                obtain ⟨j, hj, rfl, HJ⟩ := hrel
                by_cases hlt : j < M
                · obtain ⟨bt, ot, rfl, _, hct⟩ := (HRT.out.below HJ.out.2).int hlt
                  obtain ⟨bv', ov, rfl, _, hcv⟩ := (HRV.out.below HJ.out.2).int hlt
                  have c0 := hct j hlt
                  have c1' := hcv j hlt
                  have HZ : Hid ((t.zip v).take (j + 1) = (t.zip v).take j ++ [(t.getD j 0, v.getD j 0)]) := zip_take (by rw [HLL.out.1]; exact hlt) (by rw [HLL.out.2]; exact hlt)
                  obtain ⟨a, ha⟩ : ∃ a, a = t.getD j 0 := ⟨_, rfl⟩
                  obtain ⟨d, hd⟩ : ∃ d, d = v.getD j 0 := ⟨_, rfl⟩
                  rw [← ha] at c0 HZ
                  rw [← hd] at c1' HZ
                  have hown := HJ.out.1
                  have hsz := HJ.out.2.size
                  clear hct hcv ha hd
                  go_wp2_with (at_builtin; refine wpList_append_lies _ rfl (.tmp 94) (.tmp 101) 38 rfl w5.heap.size 43 i0 _ 2 16 Try.underlying38 hi hz0 hz1 hz2 rfl (by decide) u16 j (sc ((t.zip v).take j)) rfl (hown.alloc _) ⟨wr.heap.size, 0, none⟩ 1 1 [.int .i64 a, .int .i64 d] rfl rfl (two_cells wr _ _ 43) (by simp [Value.oneCell']) (by omega) (by unfold maxLen; omega) (by omega) (by simp; omega) (wr.heap.size + 1) (by simp) ?_; intro r cap w6 hown6 hg6 hat6 hlt6)
                  have HJ6 : Hid (w6.ownsRow w5.heap.size 43 2 (.slice (some ⟨r, 0, none⟩) (j + 1) cap) (j + 1) (sc ((t.zip v).take (j + 1))) ∧ Below w5.heap.size w5 w6) := by
                    refine ⟨?_, (HJ.out.2.alloc hsz _).grown hg6 (by simp; omega) (fun x hx => (hown.lt x hx).1)⟩
                    rw [HZ.out, sc_snoc]; exact hown6
                  clear hown6 hg6 hat6 hlt6 hown
                  go_wp2_with fail
                  go_roundw
                  case rel => exact ⟨j + 1, by omega, by go_num, HJ6.out⟩
                  case measure => simp [intOf]; omega
                · obtain rfl : j = M := by omega
                  have hown := HJ.out.1
                  have hzl : (t.zip v).length = j := by rw [List.length_zip, HLL.out.1, HLL.out.2]; omega
                  rw [List.take_of_length_le (by omega)] at hown
                  obtain ⟨A6, c6, rfl, hr6, _⟩ := Rs2.of_own hown
                  have hp := cpack_any A6 j c6 wr.heap.size (t.zip v) wr hr6 (Nat.le_refl _) (by omega)
                  have HOW := Lib.hid hown
                  have HBR : Hid (Below w1.heap.size w1 wr ∧ w1.heap.size ≤ wr.heap.size) := by
                    have h1 := HBW.out.2
                    have h2 := HJ.out.2.size
                    exact ⟨HBW.out.1.trans (HJ.out.2.mono h1), by omega⟩
                  have HZL := Lib.hid hzl
                  clear hown hzl hr6
                  rcases Nat.eq_zero_or_pos j with hj0 | hj0
                  · have hce : packCE (t.zip v) = 1 := by unfold packCE; rw [if_pos (by rw [HZL.out]; exact hj0)]
                    have hcb : packCB (t.zip v) = [] := by unfold packCB; rw [if_neg (by rw [hce]; decide)]
                    have HP := Lib.hid (unpackC_n2 HV.out (Or.inl (by have := HM.out; rw [← HU.out]; omega)))
                    unfold CPost at hp
                    rw [hce] at hp
                    clear hce hcb hj0
                    go_wp2_with fail
                    refine hp.mono ?_
                    rintro e w7 ⟨va, rfl, _, hb7⟩
                    have HB7 := Lib.hid (HBR.out.1.trans (hb7.mono HBR.out.2))
                    clear hp hb7
                    go_wp2_with (go_at_call 60; refine (none60 _).mono ?_; rintro e w' ⟨rfl, rfl⟩)
                    go_ret3
                    exact uc_no HP.out HB7.out
                  · obtain ⟨k1, k2, k3, k4⟩ := unpackC_back HB.out HV.out (by have := HM.out; rw [← HU.out]; omega) (by rw [← HU.out]; exact hU1) HC1.out HC2.out (by rw [← HU.out]; exact HT.out) (by rw [← HU.out]; exact HVU.out)
                    obtain ⟨e3, he3⟩ : ∃ e3, e3 = k + e1 + e2 := ⟨_, rfl⟩
                    rw [← he3] at k1 k3 k4
                    have hel : (packCB (t.zip v)).length = e3 := by rw [k3, List.length_take]; omega
                    rw [HL.out] at k4
                    unfold CPost at hp
                    rw [k2, hel, k3] at hp
                    have HP := Lib.hid k1
                    clear k1 k2 k3 hel he3
                    go_wp2_with fail
                    refine hp.mono ?_
                    rintro e w7 ⟨va, rfl, ho7, hb7⟩
                    obtain ⟨A7, c7, rfl, hr7, _⟩ := Rd.of_own ho7
                    have HB7 := Lib.hid (HBR.out.1.trans (hb7.mono HBR.out.2))
                    have hpx := prefix_same (some ⟨b, off, none⟩) A7 n c B e3 c7 w7.heap.size l w7 (HR.out.below (HB7.out.mono hB)) hr7 k4 hnc
                    have HO7 : Hid (w7.ownsRow w1.heap.size 43 2 (.slice A6 j c6) j (sc (t.zip v))) := own_base (own_kp HOW.out (Kp.none_of_below (S := fun _ => False) hb7) (fun _ _ h => h)) HBW.out.2
                    clear hp ho7 hb7 hr7
                    go_wp2_with (go_at_call 63; refine hpx.mono ?_; rintro e w' ⟨rfl, rfl⟩)
                    go_ret3
                    exact uc_ok HP.out HZL.out HO7.out HB7.out
            · have HP : Hid (unpackC l = none) := by
                rcases unpackVE_ne hE2 with h | h
                · exact unpackC_n2 HV.out (by rw [← HU.out]; exact h)
                · exact unpackC_n6 HV.out HC1.out HC2.out (by rw [← HU.out]; exact h)
              have HB9 : Hid (Below w1.heap.size w1 w5) := HW3.out.1.trans ((HB4.out.mono HW3.out.1.size).trans (HB5.out.mono (Nat.le_trans HW3.out.1.size HB4.out.size)))
              obtain ⟨E, hE⟩ : ∃ E, E = unpackVE y U := ⟨_, rfl⟩
              rw [← hE] at hE2 ⊢
              have hEb : (E != 0) = true := by simpa using hE2
              clear hE2 hE hq4 ho5 hb5
              go_wp2_with (go_at_call 60; refine (none60 _).mono ?_; rintro e w' ⟨rfl, rfl⟩)
              go_ret3
              exact uc_no HP.out HB9.out
          · have HP : Hid (unpackC l = none) := by
              rcases unpackE_ne hE1 with h | h
              · exact unpackC_n2 HV.out (by rw [← HU.out]; exact h)
              · exact unpackC_n5 HV.out HC1.out HC2.out (by rw [← HU.out]; exact h)
            have HB9 : Hid (Below w1.heap.size w1 w4) := HW3.out.1.trans (HB4.out.mono HW3.out.1.size)
            obtain ⟨E, hE⟩ : ∃ E, E = unpackE x U := ⟨_, rfl⟩
            rw [← hE] at hE1 ⊢
            have hEb : (E != 0) = true := by simpa using hE1
            clear hE1 hE hq3 ho4 hb4
            go_wp2_with (go_at_call 60; refine (none60 _).mono ?_; rintro e w' ⟨rfl, rfl⟩)
            go_ret3
            exact uc_no HP.out HB9.out
    · have hdn : l.drop k = [] := List.drop_eq_nil_of_le (by rw [HL.out]; omega)
      have HP : Hid (unpackC l = none) := unpackC_n3 HV.out (by rw [hdn]; rfl)
      have HN : Hid (cutL (l.drop k) = none) := by show _ = _; rw [hdn]; rfl
      clear hdn
      go_enter Try.func34, Try.ntmps34
      go_wp2_with fail
      refine hq.mono ?_
      rintro e w1 ⟨rfl, rfl⟩
      go_wp2_with fail
      refine (HQP.out _ (n - k) _ (Rd.any0 _ (by omega) (by rw [List.length_map, HDL.out])) (by omega) (by have := HCM.out; omega) (by omega)).mono ?_
      rintro e w2 ⟨⟨nq, hw2⟩, ⟨hc, rfl⟩ | ⟨x, e1, A1, A2, c1, c2, hc, _⟩⟩
      · have HW2 : Hid (Below w1.heap.size w1 w2) := by rw [hw2]; exact below_drewN (Below.refl _ _) nq
        clear hc hw2
        go_wp2_with (go_at_call 60; refine (none60 _).mono ?_; rintro e w' ⟨rfl, rfl⟩)
        go_ret3
        exact uc_no HP.out HW2.out
      · rw [HN.out] at hc; cases hc
end Go.Proofs.Ytnbamngancchmaa
