/- What the reference's Parse answers: as labels.Parse. Conditions: texts of at most 10^6 bytes. -/
import Derived.Test.YtlicnadbccjbjaaDoorDval
import Derived.Test.YtlicnadbccjbjaaDoorDparse
import Derived.Test.YtlicnadbccjbjaaDoorDrtext
namespace Go.Proofs.YtlicnadbccjbjaaDoor
open Go.RowKit LB

theorem pre_yes (r : List UInt8) (c : UInt8) : Lib.hasPrefix (c :: r) [c] = true ∧ Lib.trimPrefix (c :: r) [c] = r := by
  have h : Lib.hasPrefix (c :: r) [c] = true := by simp [Lib.hasPrefix, List.isPrefixOf]
  exact ⟨h, by unfold Lib.trimPrefix; rw [if_pos h]; rfl⟩
theorem pre_no {S : List UInt8} {c : UInt8} (h : ∀ r, S ≠ c :: r) : Lib.hasPrefix S [c] = false ∧ Lib.trimPrefix S [c] = S := by
  have h1 : Lib.hasPrefix S [c] = false := by
    cases S with
    | nil => rfl
    | cons a r =>
      simp only [Lib.hasPrefix, List.isPrefixOf, Bool.and_true, beq_eq_false_iff_ne]
      intro e
      exact h r (by rw [e])
  exact ⟨h1, by unfold Lib.trimPrefix; rw [if_neg (by rw [h1]; decide)]⟩
/-- Does the byte c stand at k? -/
theorem at_yes {s : ByteArray} {k : Nat} {c : UInt8} (h : k < s.size) (hc : s[k] = c) : Lib.hasPrefix (s.data.toList.drop k) [c] = true ∧ Lib.trimPrefix (s.data.toList.drop k) [c] = s.data.toList.drop (k + 1) := by
  rw [drop_at h, hc]; exact pre_yes _ _
theorem at_no {s : ByteArray} {k : Nat} {c : UInt8} (h : ∀ h : k < s.size, s[k] ≠ c) : Lib.hasPrefix (s.data.toList.drop k) [c] = false ∧ Lib.trimPrefix (s.data.toList.drop k) [c] = s.data.toList.drop k := by
  refine pre_no fun r e => ?_
  by_cases hk : k < s.size
  · rw [drop_at hk] at e
    injection e with e1 _
    exact h hk e1
  · rw [List.drop_eq_nil_of_le (by simp; omega)] at e
    cases e
theorem word_drop {s : ByteArray} {k : Nat} : (s.data.toList.drop k).dropWhile okB = s.data.toList.drop (k + ((s.data.toList.drop k).takeWhile okB).length) := by
  have h : (s.data.toList.drop k).takeWhile okB ++ (s.data.toList.drop k).dropWhile okB = s.data.toList.drop k := List.takeWhile_append_dropWhile
  rw [← List.drop_drop]
  have h2 := congrArg (List.drop ((s.data.toList.drop k).takeWhile okB).length) h
  rw [List.drop_left] at h2
  exact h2
theorem word_le {s : ByteArray} {k : Nat} (hk : k ≤ s.size) : k + ((s.data.toList.drop k).takeWhile okB).length ≤ s.size := by
  have := (List.takeWhile_sublist okB (l := s.data.toList.drop k)).length_le
  rw [List.length_drop] at this
  simp at this
  omega
theorem inv_long {S : List UInt8} {l : List Lab} {rest : List UInt8} {ok : Bool} (h : Inv S l rest ok) (hl : 16 < l.length) : ∀ m, Good m → textM m ≠ S := by
  intro m hg hm
  have hs := (mkL_small (show mkL m = some m from hg)).2.1
  cases ok with
  | true =>
    obtain ⟨x, r, h1, _⟩ := (h m hg hm).1 rfl
    rw [h1, List.length_append] at hs
    omega
  | false =>
    have := ((h m hg hm).2 rfl).1
    subst this
    omega
theorem textM_head (m : List Lab) (h : Good m) : ∃ r, textM m = 123 :: r := by
  have hp := good_pos h
  cases m with
  | nil => simp at hp
  | cons x r => exact ⟨_, textM_cons x r⟩
theorem ppost_no {w w' : World} {S : List UInt8} (h : ∀ m, Good m → textM m ≠ S) (hb : Below w.heap.size w w') : PPost w S (.returned (.tuple #[.slice none 0 0, .int .i64 4])) w' := ⟨hb, .inr ⟨rfl, h⟩⟩

set_option maxRecDepth 100000 in
set_option maxHeartbeats 4000000 in
theorem rparse16 (s : ByteArray) (w : World) (hs : s.size ≤ 1000000) :
    Calls Tryd.prog 16 #[.string s] w (PPost w s.data.toList) := by
  obtain ⟨i0, hi, hz0, hz1, hz2⟩ := info_parts Tryd.info37
  by_cases hz : s.size = 0
  · have hS : s.data.toList = [] := List.eq_nil_of_length_eq_zero (by simpa using hz)
    have HE : Hid (∀ m, Good m → textM m ≠ s.data.toList) := by
      show ∀ m, Good m → textM m ≠ s.data.toList
      intro m _; rw [hS]; exact textM_ne m
    obtain rfl := (empty_iff s).1 hz
    clear hz hS
    go_enter Tryd.func16, Tryd.ntmps16
    go_wp2_with fail
    go_ret2
    exact ppost_no HE.out (Below.refl _ _)
  · have hne := not_empty hz
    have hzp : 0 < s.size := by omega
    have hd0 := drop_at hzp
    rw [List.drop_zero] at hd0
    by_cases hq : s[0].toNat = 123
    · have e34 : ((s[0].toNat : Int) != 123) = false := by rw [hq]; rfl
      have hc : s[0] = 123 := u8_of hq
      have hinv := inv_start s.data.toList
      have hyes := at_yes hzp hc
      rw [List.drop_zero] at hyes
      rw [hyes.1, hyes.2] at hinv
      have HINV := Lib.hid hinv
      clear hinv hyes hc hd0 hq
      go_enter Tryd.func16, Tryd.ntmps16
      go_wp2_with fail
      go_loopw [4, 5] (fun i v wr => ∃ (k n : Nat) (l : List Lab), k ≤ s.size ∧ i = .int .i64 k ∧ n ≤ 17 ∧ Hid (l.length = n) ∧ wr.ownsRow w.heap.size 37 2 v n (lv l) ∧ Hid (Inv s.data.toList l (s.data.toList.drop k) true) ∧ Below w.heap.size w wr) (fun i _ _ => s.size - (intOf i).toNat)
      case atStart => exact ⟨1, 0, [], by omega, rfl, by omega, rfl, World.ownsRow_nil _ _ _ _, HINV, Below.refl _ _⟩
      case round =>
        obtain ⟨k, n, l, hk, rfl, hn17, hln, hown, hiv, hb⟩ := hrel
        have hsz := hb.size
        have hwd := word32 s k wr hk hs
        have hdl := word_le hk
        have hwe := word_drop (s := s) (k := k)
        obtain ⟨N, hN⟩ : ∃ N : ByteArray, N = bs ((s.data.toList.drop k).takeWhile okB) := ⟨_, rfl⟩
        rw [← hN] at hwd
        have hNs : ((s.data.toList.drop k).takeWhile okB).length = N.size := by rw [hN, bs_size]
        rw [hNs] at hdl hwe
        have HWD := Lib.hid hwd
        have HNN := Lib.hid hN
        have HWE := Lib.hid hwe
        obtain ⟨m, hm⟩ : ∃ m, m = k + N.size := ⟨_, rfl⟩
        have hmi : (k : Int) + (N.size : Int) = (m : Int) := by omega
        rw [← hm] at hdl
        clear hwd hN hwe hNs
        by_cases hend : s.size ≤ m
        · have d0 : decide ((s.size : Int) ≤ (m : Int)) = true := decide_eq_true (by omega)
          have d1 : decide (s.size ≤ m) = true := decide_eq_true hend
          have HE : Hid (∀ m, Good m → textM m ≠ s.data.toList) := inv_no_eq hiv.out (by rw [HWE.out, ← hm]; exact (at_no fun h => by omega).1)
          clear hm
          go_wp2_with fail
          refine HWD.out.mono ?_
          rintro e w2 ⟨rfl, hw2⟩; rw [hw2]; clear hw2 w2
          go_wp2_with fail
          go_ret2
          exact ppost_no HE.out hb
        · have hlt : m < s.size := by omega
          have d0 : decide ((s.size : Int) ≤ (m : Int)) = false := decide_eq_false (by omega)
          have d1 : decide (s.size ≤ m) = false := decide_eq_false (by omega)
          by_cases hc : s[m].toNat = 61
          · have f1 : ((s[m].toNat : Int) != 61) = false := by rw [hc]; rfl
            obtain ⟨p1, p2⟩ := at_yes (c := 61) hlt (u8_of hc)
            have hv := value33 s (m + 1) wr hs (by omega)
            have em : ((m + 1 : Nat) : Int) = (m : Int) + 1 := by omega
            rw [em] at hv
            have HV := Lib.hid hv
            have HP : Hid (Lib.trimPrefix ((s.data.toList.drop k).dropWhile okB) [61] = s.data.toList.drop (m + 1)) := by
              show _ = _
              rw [HWE.out, ← hm, p2]
            clear hv em p1 p2 hc hm
            go_wp2_with fail
            refine HWD.out.mono ?_
            rintro e w2 ⟨rfl, hw2⟩; rw [hw2]; clear hw2 w2
            go_wp2_with fail
            refine HV.out.mono ?_
            rintro e w2 ⟨hb2, ⟨v, k2, hu, hk1, hk2, rfl⟩ | ⟨hu, rfl⟩⟩
            · have hk2s : k2 ≤ s.size := by simpa using hk2
              have hst := inv_step hiv.out (by rw [HP.out]; exact hu)
              rw [← HNN.out] at hst
              have HST := Lib.hid hst
              have hbw : Below w.heap.size w w2 := hb.trans (hb2.mono hsz)
              have hs2 := hb2.size
              obtain ⟨A5, c5, rfl, _, _, _⟩ := Lv.of_own hown
              clear hu hst hk2
              by_cases h16 : 16 < n
              · have g0 : decide ((16 : Int) < (n : Int)) = true := decide_eq_true (by omega)
                have g1 : decide (16 < n) = true := decide_eq_true h16
                have HE : Hid (∀ m, Good m → textM m ≠ s.data.toList) := inv_long hiv.out (by rw [hln.out]; exact h16)
                go_wp2_with fail
                go_ret2
                exact ppost_no HE.out hbw
              · have g0 : decide ((16 : Int) < (n : Int)) = false := decide_eq_false (by omega)
                have g1 : decide (16 < n) = false := decide_eq_false h16
                have hown2 := own_kp hown (Kp.none_of_below (S := fun _ => False) hb2) (fun _ _ h => h)
                have HOWN := Lib.hid hown
                have htc := two_cells w2 (.string N) (.string (bs v)) 37
                clear hown
                obtain ⟨l8, hl8⟩ : ∃ l8, l8 = l ++ [(N, bs v)] := ⟨_, rfl⟩
                have HL8 := Lib.hid hl8
                rw [← hl8] at HST
                have hln8 : Hid (l8.length = n + 1) := by show _ = _; rw [hl8, List.length_append, hln.out]; rfl
                clear hl8
                by_cases hcm : k2 < s.size ∧ ∀ h : k2 < s.size, s[k2].toNat = 44
                · obtain ⟨hc1, hc2⟩ := hcm
                  have hc3 := hc2 hc1
                  have b0 : decide ((k2 : Int) < (s.size : Int)) = true := decide_eq_true (by omega)
                  have b1 : decide (k2 < s.size) = true := decide_eq_true hc1
                  have b2 : ((s[k2].toNat : Int) == 44) = true := by rw [hc3]; rfl
                  obtain ⟨p1, p2⟩ := at_yes (c := 44) hc1 (u8_of hc3)
                  have HS2 : Hid (Inv s.data.toList l8 (s.data.toList.drop (k2 + 1)) true) := by
                    have h := HST.out
                    rw [p1, p2] at h
                    exact h
                  clear hc2 hc3 p1 p2
                  go_wp2_with (at_builtin; refine wpList_append_lies _ rfl (.tmp 49) (.tmp 53) 22 rfl w.heap.size 37 i0 _ 2 32 Tryd.underlying22 hi hz0 hz1 hz2 rfl (by decide) (.slice A5 n c5) n (lv l) rfl (hown2.alloc _) ⟨w2.heap.size, 0, none⟩ 1 1 [.string N, .string (bs v)] rfl rfl htc (by simp [Value.oneCell']) (by omega) (by unfold maxLen; omega) (by omega) (by simp; omega) (w2.heap.size + 1) (by simp) ?_; intro r cap w8 hown8 hg8 hat8 hlt8)
                  have HF : Hid (w8.ownsRow w.heap.size 37 2 (.slice (some ⟨r, 0, none⟩) (n + 1) cap) (n + 1) (lv l8) ∧ Below w.heap.size w w8) := by
                    refine ⟨by rw [HL8.out, lv_append]; exact hown8, (hbw.alloc hbw.size _).grown hg8 (by simp; omega) (fun x hx => (HOWN.out.lt x hx).1)⟩
                  clear hown8 hg8 hat8 hlt8 hown2 htc
                  go_wp2_with fail
                  go_roundw
                  case rel => exact ⟨k2 + 1, n + 1, l8, by omega, by go_num, by omega, hln8, HF.out.1, HS2, HF.out.2⟩
                  case measure => simp [intOf]; omega
                · have HS2 : Hid (Inv s.data.toList l8 (s.data.toList.drop k2) false) := by
                    have h := HST.out
                    obtain ⟨p1, p2⟩ := at_no (s := s) (k := k2) (c := 44) (fun h e => hcm ⟨h, fun _ => by rw [e]; rfl⟩)
                    rw [p1, p2] at h
                    exact h
                  obtain ⟨T, hT⟩ : ∃ T, T = bs (textL l8) := ⟨_, rfl⟩
                  have hl := inv_end HS2.out
                  have hTS : (T.toList == s.toList) = decide (T = s) := eq_beq T s
                  have HFIN : Hid ((T = s → Good l8 ∧ textM l8 = s.data.toList ∧ ∀ m, Good m → textM m = s.data.toList → m = l8) ∧ (T ≠ s → ∀ m, Good m → textM m ≠ s.data.toList)) := by
                    refine ⟨fun h => ?_, fun h m hg hm => ?_⟩
                    · have h1 : textL l8 = s.data.toList := by rw [← h, hT, bs_data]
                      obtain ⟨m, _, hg, hm⟩ := text_good h1 (fun e => by
                        have h2 : s.data.toList.length = 0 := by rw [e]; rfl
                        have h3 : s.data.toList.length = s.size := by simp
                        omega)
                      have := hl m hg hm
                      subst this
                      exact ⟨hg, hm, fun m' g1 g2 => (hl m' g1 g2).symm⟩
                    · have := hl m hg hm
                      subst this
                      exact h (by rw [hT, good_text hg, hm, bs_of])
                  have HCM := Lib.hid hcm
                  have HT := Lib.hid hT
                  clear hT hl hcm
                  by_cases hc1 : k2 < s.size
                  · have b0 : decide ((k2 : Int) < (s.size : Int)) = true := decide_eq_true (by omega)
                    have b1 : decide (k2 < s.size) = true := decide_eq_true hc1
                    have b2 : ((s[k2].toNat : Int) == 44) = false := by
                      rw [beq_eq_false_iff_ne]
                      intro e
                      exact HCM.out ⟨hc1, fun _ => by omega⟩
                    by_cases hfin : T = s
                    · have e1 : (T.toList == s.toList) = true := by rw [hTS, decide_eq_true hfin]
                      have HG := Lib.hid (HFIN.out.1 hfin)
                      clear hfin hTS HCM
                      go_wp2_with (at_builtin; refine wpList_append_lies _ rfl (.tmp 49) (.tmp 53) 22 rfl w.heap.size 37 i0 _ 2 32 Tryd.underlying22 hi hz0 hz1 hz2 rfl (by decide) (.slice A5 n c5) n (lv l) rfl (hown2.alloc _) ⟨w2.heap.size, 0, none⟩ 1 1 [.string N, .string (bs v)] rfl rfl htc (by simp [Value.oneCell']) (by omega) (by unfold maxLen; omega) (by omega) (by simp; omega) (w2.heap.size + 1) (by simp) ?_; intro r cap w8 hown8 hg8 hat8 hlt8)
                      have HF : Hid (w8.ownsRow w.heap.size 37 2 (.slice (some ⟨r, 0, none⟩) (n + 1) cap) (n + 1) (lv l8) ∧ Below w.heap.size w w8) := by
                        refine ⟨by rw [HL8.out, lv_append]; exact hown8, (hbw.alloc hbw.size _).grown hg8 (by simp; omega) (fun x hx => (HOWN.out.lt x hx).1)⟩
                      clear hown8 hg8 hat8 hlt8 hown2 htc
                      have hown8 := HF.out.1
                      obtain ⟨A8, c8, hA, hlv8, hc81, hc82⟩ := Lv.of_own hown8
                      injection hA with hA1 hA2 hA3
                      subst hA1; subst hA3
                      have hq := rtext11 _ (n + 1) cap w8.heap.size l8 w8 hlv8 (Nat.le_refl _)
                      rw [← HT.out] at hq
                      have HQ := Lib.hid hq
                      clear hq hown8 hlv8
                      go_wp2_with fail
                      refine HQ.out.mono ?_
                      rintro e w9 ⟨rfl, hb9⟩
                      have hbf := HF.out.2.trans (hb9.mono HF.out.2.size)
                      go_wp2_with fail
                      go_ret2
                      exact ⟨hbf, .inl ⟨_, l8, rfl, by rw [hln8.out]; exact own_kp HF.out.1 (Kp.none_of_below (S := fun _ => False) hb9) (fun _ _ h => h), HG.out⟩⟩
                    · have e1 : (T.toList == s.toList) = false := by rw [hTS, decide_eq_false hfin]
                      have HG := Lib.hid (HFIN.out.2 hfin)
                      clear hfin hTS HCM
                      go_wp2_with (at_builtin; refine wpList_append_lies _ rfl (.tmp 49) (.tmp 53) 22 rfl w.heap.size 37 i0 _ 2 32 Tryd.underlying22 hi hz0 hz1 hz2 rfl (by decide) (.slice A5 n c5) n (lv l) rfl (hown2.alloc _) ⟨w2.heap.size, 0, none⟩ 1 1 [.string N, .string (bs v)] rfl rfl htc (by simp [Value.oneCell']) (by omega) (by unfold maxLen; omega) (by omega) (by simp; omega) (w2.heap.size + 1) (by simp) ?_; intro r cap w8 hown8 hg8 hat8 hlt8)
                      have HF : Hid (w8.ownsRow w.heap.size 37 2 (.slice (some ⟨r, 0, none⟩) (n + 1) cap) (n + 1) (lv l8) ∧ Below w.heap.size w w8) := by
                        refine ⟨by rw [HL8.out, lv_append]; exact hown8, (hbw.alloc hbw.size _).grown hg8 (by simp; omega) (fun x hx => (HOWN.out.lt x hx).1)⟩
                      clear hown8 hg8 hat8 hlt8 hown2 htc
                      have hown8 := HF.out.1
                      obtain ⟨A8, c8, hA, hlv8, hc81, hc82⟩ := Lv.of_own hown8
                      injection hA with hA1 hA2 hA3
                      subst hA1; subst hA3
                      have hq := rtext11 _ (n + 1) cap w8.heap.size l8 w8 hlv8 (Nat.le_refl _)
                      rw [← HT.out] at hq
                      have HQ := Lib.hid hq
                      clear hq hown8 hlv8
                      go_wp2_with fail
                      refine HQ.out.mono ?_
                      rintro e w9 ⟨rfl, hb9⟩
                      have hbf := HF.out.2.trans (hb9.mono HF.out.2.size)
                      go_wp2_with fail
                      go_ret2
                      exact ppost_no HG.out hbf
                  · have b0 : decide ((k2 : Int) < (s.size : Int)) = false := decide_eq_false (by omega)
                    have b1 : decide (k2 < s.size) = false := decide_eq_false hc1
                    by_cases hfin : T = s
                    · have e1 : (T.toList == s.toList) = true := by rw [hTS, decide_eq_true hfin]
                      have HG := Lib.hid (HFIN.out.1 hfin)
                      clear hfin hTS HCM
                      go_wp2_with (at_builtin; refine wpList_append_lies _ rfl (.tmp 49) (.tmp 53) 22 rfl w.heap.size 37 i0 _ 2 32 Tryd.underlying22 hi hz0 hz1 hz2 rfl (by decide) (.slice A5 n c5) n (lv l) rfl (hown2.alloc _) ⟨w2.heap.size, 0, none⟩ 1 1 [.string N, .string (bs v)] rfl rfl htc (by simp [Value.oneCell']) (by omega) (by unfold maxLen; omega) (by omega) (by simp; omega) (w2.heap.size + 1) (by simp) ?_; intro r cap w8 hown8 hg8 hat8 hlt8)
                      have HF : Hid (w8.ownsRow w.heap.size 37 2 (.slice (some ⟨r, 0, none⟩) (n + 1) cap) (n + 1) (lv l8) ∧ Below w.heap.size w w8) := by
                        refine ⟨by rw [HL8.out, lv_append]; exact hown8, (hbw.alloc hbw.size _).grown hg8 (by simp; omega) (fun x hx => (HOWN.out.lt x hx).1)⟩
                      clear hown8 hg8 hat8 hlt8 hown2 htc
                      have hown8 := HF.out.1
                      obtain ⟨A8, c8, hA, hlv8, hc81, hc82⟩ := Lv.of_own hown8
                      injection hA with hA1 hA2 hA3
                      subst hA1; subst hA3
                      have hq := rtext11 _ (n + 1) cap w8.heap.size l8 w8 hlv8 (Nat.le_refl _)
                      rw [← HT.out] at hq
                      have HQ := Lib.hid hq
                      clear hq hown8 hlv8
                      go_wp2_with fail
                      refine HQ.out.mono ?_
                      rintro e w9 ⟨rfl, hb9⟩
                      have hbf := HF.out.2.trans (hb9.mono HF.out.2.size)
                      go_wp2_with fail
                      go_ret2
                      exact ⟨hbf, .inl ⟨_, l8, rfl, by rw [hln8.out]; exact own_kp HF.out.1 (Kp.none_of_below (S := fun _ => False) hb9) (fun _ _ h => h), HG.out⟩⟩
                    · have e1 : (T.toList == s.toList) = false := by rw [hTS, decide_eq_false hfin]
                      have HG := Lib.hid (HFIN.out.2 hfin)
                      clear hfin hTS HCM
                      go_wp2_with (at_builtin; refine wpList_append_lies _ rfl (.tmp 49) (.tmp 53) 22 rfl w.heap.size 37 i0 _ 2 32 Tryd.underlying22 hi hz0 hz1 hz2 rfl (by decide) (.slice A5 n c5) n (lv l) rfl (hown2.alloc _) ⟨w2.heap.size, 0, none⟩ 1 1 [.string N, .string (bs v)] rfl rfl htc (by simp [Value.oneCell']) (by omega) (by unfold maxLen; omega) (by omega) (by simp; omega) (w2.heap.size + 1) (by simp) ?_; intro r cap w8 hown8 hg8 hat8 hlt8)
                      have HF : Hid (w8.ownsRow w.heap.size 37 2 (.slice (some ⟨r, 0, none⟩) (n + 1) cap) (n + 1) (lv l8) ∧ Below w.heap.size w w8) := by
                        refine ⟨by rw [HL8.out, lv_append]; exact hown8, (hbw.alloc hbw.size _).grown hg8 (by simp; omega) (fun x hx => (HOWN.out.lt x hx).1)⟩
                      clear hown8 hg8 hat8 hlt8 hown2 htc
                      have hown8 := HF.out.1
                      obtain ⟨A8, c8, hA, hlv8, hc81, hc82⟩ := Lv.of_own hown8
                      injection hA with hA1 hA2 hA3
                      subst hA1; subst hA3
                      have hq := rtext11 _ (n + 1) cap w8.heap.size l8 w8 hlv8 (Nat.le_refl _)
                      rw [← HT.out] at hq
                      have HQ := Lib.hid hq
                      clear hq hown8 hlv8
                      go_wp2_with fail
                      refine HQ.out.mono ?_
                      rintro e w9 ⟨rfl, hb9⟩
                      have hbf := HF.out.2.trans (hb9.mono HF.out.2.size)
                      go_wp2_with fail
                      go_ret2
                      exact ppost_no HG.out hbf
            · have HE : Hid (∀ m, Good m → textM m ≠ s.data.toList) := inv_no_unq hiv.out (by rw [HP.out]; exact hu)
              clear hu
              go_wp2_with fail
              go_ret2
              exact ppost_no HE.out (hb.trans (hb2.mono hsz))
          · have f1 : ((s[m].toNat : Int) != 61) = true := by rw [bne_iff_ne]; omega
            have HE : Hid (∀ m, Good m → textM m ≠ s.data.toList) := inv_no_eq hiv.out (by rw [HWE.out, ← hm]; exact (at_no fun h e => hc (by rw [e]; rfl)).1)
            clear hm hc
            go_wp2_with fail
            refine HWD.out.mono ?_
            rintro e w2 ⟨rfl, hw2⟩; rw [hw2]; clear hw2 w2
            go_wp2_with fail
            go_ret2
            exact ppost_no HE.out hb
    · have e34 : ((s[0].toNat : Int) != 123) = true := by rw [bne_iff_ne]; omega
      have HE : Hid (∀ m, Good m → textM m ≠ s.data.toList) := by
        show ∀ m, Good m → textM m ≠ s.data.toList
        intro m hg hm
        obtain ⟨r, hr⟩ := textM_head m hg
        rw [hd0, hr] at hm
        injection hm with h1 _
        exact hq (by rw [← h1]; rfl)
      clear hd0 hq
      go_enter Tryd.func16, Tryd.ntmps16
      go_wp2_with fail
      go_ret2
      exact ppost_no HE.out (Below.refl _ _)
end Go.Proofs.YtlicnadbccjbjaaDoor
