/- What lysimeterref4.Stamps answers: the error, and the bytes in new memory. Condition: at most 10^9 times. -/
import Derived.Test.YtnbamngancchmaaRefBytes
import Derived.Test.YtnbamngancchmaaRising
import Derived.Test.YtnbamngancchmaaPack
namespace Go.Proofs.Ytnbamngancchmaa
open Go.RowKit PB PS

theorem Wb.made (w : World) (base t : Nat) (ht : t = 72) (hb : base ≤ w.heap.size) : Wb (w.alloc (.cells #[.slice none 0 0] t)) base w.heap.size (.slice none 0 0) [] := by
  subst ht
  exact ⟨Arr.new _ _ _, World.ownsRow_nil _ _ _ _, hb⟩
theorem Wb.drewN {w : World} {base g : Nat} {sv : Value} {C : List Bool} (h : Wb w base g sv C) (k : Nat) : Wb (w.drewN k) base g sv C := by
  have hd := own_kp h.own ((Kp.refl (fun _ => False) w).drewN k) (fun _ _ h => h)
  exact ⟨h.arr.drewN k, hd, h.ge⟩

theorem below_drewN {B : Nat} {a w : World} (h : Below B a w) (n : Nat) : Below B a (w.drewN n) := ⟨h.os, h.tape, h.output, h.size, h.block⟩
theorem encDiff0 {e : Int} (h : e = 0) : encDiff e = putBits 0 1 := by subst h; rfl
theorem encDiff1 {e : Int} (h0 : ¬ e = 0) (h : -63 ≤ e ∧ e ≤ 64) : encDiff e = putBits 2 2 ++ putBits (e + 63) 7 := by
  unfold encDiff; rw [if_neg h0, if_pos h]; rfl
theorem encDiff2 {e : Int} (h0 : ¬ (-63 ≤ e ∧ e ≤ 64)) (h : -255 ≤ e ∧ e ≤ 256) : encDiff e = putBits 6 3 ++ putBits (e + 255) 9 := by
  unfold encDiff; rw [if_neg (by omega), if_neg h0, if_pos h]; rfl
theorem encDiff3 {e : Int} (h0 : ¬ (-255 ≤ e ∧ e ≤ 256)) (h : -2047 ≤ e ∧ e ≤ 2048) : encDiff e = putBits 14 4 ++ putBits (e + 2047) 12 := by
  unfold encDiff; rw [if_neg (by omega), if_neg (by omega), if_neg h0, if_pos h]; rfl
theorem encDiff4 {e : Int} (h0 : ¬ (-2047 ≤ e ∧ e ≤ 2048)) : encDiff e = putBits 15 4 ++ putBits e 64 := by
  unfold encDiff; rw [if_neg (by omega), if_neg (by omega), if_neg (by omega), if_neg h0]; rfl

set_option maxRecDepth 100000 in
set_option maxHeartbeats 2000000 in
theorem rstamps_any (A : Option Addr) (n c B : Nat) (l : List Int) (w : World) (hr : Rd w B A n (ints l)) (hB : B ≤ w.heap.size) (hn : n ≤ 1000000000) :
    Calls Try.prog 18 #[.slice A n c] w (PackPost w l) := by
  have hl := hr.len
  by_cases h120 : n ≤ 120
  · have hrise := rising_any A n c B l w hr hn
    have HL := Lib.hid hl
    by_cases hgood : good l l.length = true
    · have he : packE l = 0 := packE_zero.2 ⟨by omega, hgood⟩
      have HE := Lib.hid he
      rw [hl] at hgood
      have HG := Lib.hid hgood
      rw [hl, hgood] at hrise
      clear hl he hgood
      go_enter Try.func18, Try.ntmps18
      go_wp2_with fail
      refine hrise.mono ?_
      rintro e w' ⟨rfl, j, rfl⟩
      have hr1 := hr.drewN j
      clear hr hrise
      go_wp2_with fail
      go_loopw [6, 7] (fun d i wr => ∃ (k : Nat) (sv : Value), k ≤ n ∧ i = .int .i64 k ∧ d = .int .i64 (dprev l k) ∧ Wb wr w.heap.size w.heap.size sv (enc l k) ∧ Below w.heap.size (w.drewN j) wr) (fun _ i _ => n - (intOf i).toNat)
      case atStart => exact ⟨0, _, Nat.zero_le _, rfl, rfl, Wb.made (w.drewN j) _ _ rfl (Nat.le_refl _), (Below.refl _ (w.drewN j)).alloc (Nat.le_refl w.heap.size) _⟩
      case round =>
        obtain ⟨k, sv, hk, rfl, rfl, hwr, hbl⟩ := hrel
        have henc := enc_le l k
        by_cases hlt : k < n
        · obtain ⟨b, off, rfl, hb, hc⟩ := (hr1.below (hbl.mono hB)).int hlt
          have hck := hc k hlt
          have hcp := hc (k - 1) (by omega)
          have gk := goodAt_b (good_at HG.out (i := k) (by omega))
          obtain ⟨x, hx⟩ : ∃ x, x = l.getD k 0 := ⟨_, rfl⟩
          rw [← hx] at hck gk
          have HX := Lib.hid hx
          clear hx hc
          obtain ⟨g1, g2, g3⟩ := gk
          rcases Nat.eq_zero_or_pos k with h0 | h0
          · subst h0
            clear g3
            rw [Nat.add_zero] at hck
            have hq := rput_any w.heap.size w.heap.size 64 x sv (enc l 0) wr (by omega) (by omega) hwr
            go_wp2_with fail
            refine hq.mono ?_
            rintro r w2 ⟨rfl, ⟨sv2, hwr2⟩, hb2⟩
            have HW : Hid (Wb w2 w.heap.size w.heap.size sv2 (enc l (0 + 1)) ∧ Below w.heap.size (w.drewN j) w2) := by
              refine ⟨?_, hbl.trans hb2⟩
              rw [enc_succ]
              have : encAt l 0 = putBits x 64 := by rw [HX.out]; rfl
              rw [this]; exact hwr2
            clear hq hwr2 hwr hbl hck hcp hb2
            go_wp2_with fail
            go_roundw
            case rel => exact ⟨1, sv2, by omega, by go_num, rfl, HW.out.1, HW.out.2⟩
            case measure => simp [intOf]; omega
          · have gp := goodAt_b (good_at HG.out (i := k - 1) (by omega))
            have hdp : Hid (-18014398509481984 ≤ dprev l k ∧ dprev l k ≤ 18014398509481984) := dprev_b HG.out (by omega)
            obtain ⟨hd1, hd2⟩ := hdp.out
            obtain ⟨y, hy⟩ : ∃ y, y = l.getD (k - 1) 0 := ⟨_, rfl⟩
            rw [← hy] at hcp gp
            obtain ⟨d, hd⟩ : ∃ d, d = dprev l k := ⟨_, rfl⟩
            rw [← hd] at hd1 hd2 ⊢
            have HY := Lib.hid hy
            have HD := Lib.hid hd
            obtain ⟨gp1, gp2, _⟩ := gp
            have hk1 : 0 ≤ (k : Int) - 1 := by omega
            have hk2 : 1 ≤ (k : Int) := by omega
            have HDN : Hid (dprev l (k + 1) = x - y) := by
              show _ = _
              rw [HX.out, HY.out]; unfold dprev; rw [if_neg (by omega)]; rfl
            have HN : Hid (∀ C, C = enc l k → C ++ encDiff (x - y - d) = enc l (k + 1)) := by
              rintro C rfl
              rw [enc_succ]
              congr 1
              rw [HX.out, HY.out, HD.out]; unfold encAt; rw [if_neg (by omega)]
            clear hy hd hdp g3
            by_cases e0 : x - y - d = 0
            · have HQ := Lib.hid (encDiff0 e0)
              go_wp2_with fail
              go_quiet (fail)
              go_wp2_with fail
              have hq := rput_any w.heap.size w.heap.size 1 0 sv (enc l k) (wr.drewN nq) (by omega) (by omega) (hwr.drewN nq)
              refine hq.mono ?_
              rintro r w2 ⟨rfl, ⟨sv2, hwr2⟩, hb2⟩
              have HW : Hid (Wb w2 w.heap.size w.heap.size sv2 (enc l (k + 1)) ∧ Below w.heap.size (w.drewN j) w2) := by
                refine ⟨?_, (below_drewN hbl nq).trans hb2⟩
                rw [← HQ.out] at hwr2
                rw [← HN.out _ rfl]; exact hwr2
              clear hq hwr2 hwr hbl hck hcp hb2
              go_wp2_with fail
              go_roundw
              case rel => exact ⟨k + 1, sv2, by omega, by go_num, by rw [HDN.out], HW.out.1, HW.out.2⟩
              case measure => simp [intOf]; omega
            by_cases e1 : -63 ≤ x - y - d ∧ x - y - d ≤ 64
            · have HQ := Lib.hid (encDiff1 e0 e1)
              obtain ⟨p1, p2⟩ := e1
              go_wp2_with fail
              go_quiet (fail)
              go_wp2_with fail
              have hq := rput_any w.heap.size w.heap.size 2 2 sv (enc l k) (wr.drewN nq) (by omega) (by omega) (hwr.drewN nq)
              refine hq.mono ?_
              rintro r w2 ⟨rfl, ⟨sv2, hwr2⟩, hb2⟩
              go_wp2_with fail
              have hq2 := rput_any w.heap.size w.heap.size 7 (x - y - d + 63) sv2 (enc l k ++ putBits 2 2) w2 (by omega) (by rw [List.length_append, putBits_length]; omega) hwr2
              refine hq2.mono ?_
              rintro r w3 ⟨rfl, ⟨sv3, hwr3⟩, hb3⟩
              have HW : Hid (Wb w3 w.heap.size w.heap.size sv3 (enc l (k + 1)) ∧ Below w.heap.size (w.drewN j) w3) := by
                refine ⟨?_, (below_drewN hbl nq).trans (hb2.trans hb3)⟩
                rw [List.append_assoc, ← HQ.out] at hwr3
                rw [← HN.out _ rfl]; exact hwr3
              clear hq hq2 hwr2 hwr3 hwr hbl hck hcp hb2 hb3
              go_wp2_with fail
              go_roundw
              case rel => exact ⟨k + 1, sv3, by omega, by go_num, by rw [HDN.out], HW.out.1, HW.out.2⟩
              case measure => simp [intOf]; omega
            by_cases e2 : -255 ≤ x - y - d ∧ x - y - d ≤ 256
            · have HQ := Lib.hid (encDiff2 e1 e2)
              obtain ⟨p1, p2⟩ := e2
              have c1 : x - y - d < -63 ∨ 64 < x - y - d := by omega
              clear e1
              rcases c1 with c1 | c1
              all_goals
                go_wp2_with fail
                go_quiet (fail)
                go_wp2_with fail
                have hq := rput_any w.heap.size w.heap.size 3 6 sv (enc l k) (wr.drewN nq) (by omega) (by omega) (hwr.drewN nq)
                refine hq.mono ?_
                rintro r w2 ⟨rfl, ⟨sv2, hwr2⟩, hb2⟩
                go_wp2_with fail
                have hq2 := rput_any w.heap.size w.heap.size 9 (x - y - d + 255) sv2 (enc l k ++ putBits 6 3) w2 (by omega) (by rw [List.length_append, putBits_length]; omega) hwr2
                refine hq2.mono ?_
                rintro r w3 ⟨rfl, ⟨sv3, hwr3⟩, hb3⟩
                have HW : Hid (Wb w3 w.heap.size w.heap.size sv3 (enc l (k + 1)) ∧ Below w.heap.size (w.drewN j) w3) := by
                  refine ⟨?_, (below_drewN hbl nq).trans (hb2.trans hb3)⟩
                  rw [List.append_assoc, ← HQ.out] at hwr3
                  rw [← HN.out _ rfl]; exact hwr3
                clear hq hq2 hwr2 hwr3 hwr hbl hck hcp hb2 hb3
                go_wp2_with fail
                go_roundw
                case rel => exact ⟨k + 1, sv3, by omega, by go_num, by rw [HDN.out], HW.out.1, HW.out.2⟩
                case measure => simp [intOf]; omega
            by_cases e3 : -2047 ≤ x - y - d ∧ x - y - d ≤ 2048
            · have HQ := Lib.hid (encDiff3 e2 e3)
              obtain ⟨p1, p2⟩ := e3
              have c1 : x - y - d < -255 ∨ 256 < x - y - d := by omega
              clear e1 e2
              rcases c1 with c1 | c1
              all_goals
                go_wp2_with fail
                go_quiet (fail)
                go_wp2_with fail
                have hq := rput_any w.heap.size w.heap.size 4 14 sv (enc l k) (wr.drewN nq) (by omega) (by omega) (hwr.drewN nq)
                refine hq.mono ?_
                rintro r w2 ⟨rfl, ⟨sv2, hwr2⟩, hb2⟩
                go_wp2_with fail
                have hq2 := rput_any w.heap.size w.heap.size 12 (x - y - d + 2047) sv2 (enc l k ++ putBits 14 4) w2 (by omega) (by rw [List.length_append, putBits_length]; omega) hwr2
                refine hq2.mono ?_
                rintro r w3 ⟨rfl, ⟨sv3, hwr3⟩, hb3⟩
                have HW : Hid (Wb w3 w.heap.size w.heap.size sv3 (enc l (k + 1)) ∧ Below w.heap.size (w.drewN j) w3) := by
                  refine ⟨?_, (below_drewN hbl nq).trans (hb2.trans hb3)⟩
                  rw [List.append_assoc, ← HQ.out] at hwr3
                  rw [← HN.out _ rfl]; exact hwr3
                clear hq hq2 hwr2 hwr3 hwr hbl hck hcp hb2 hb3
                go_wp2_with fail
                go_roundw
                case rel => exact ⟨k + 1, sv3, by omega, by go_num, by rw [HDN.out], HW.out.1, HW.out.2⟩
                case measure => simp [intOf]; omega
            · have HQ := Lib.hid (encDiff4 e3)
              have c1 : x - y - d < -2047 ∨ 2048 < x - y - d := by omega
              clear e1 e2 e3
              rcases c1 with c1 | c1
              all_goals
                go_wp2_with fail
                go_quiet (fail)
                go_wp2_with fail
                have hq := rput_any w.heap.size w.heap.size 4 15 sv (enc l k) (wr.drewN nq) (by omega) (by omega) (hwr.drewN nq)
                refine hq.mono ?_
                rintro r w2 ⟨rfl, ⟨sv2, hwr2⟩, hb2⟩
                go_wp2_with fail
                have hq2 := rput_any w.heap.size w.heap.size 64 (x - y - d) sv2 (enc l k ++ putBits 15 4) w2 (by omega) (by rw [List.length_append, putBits_length]; omega) hwr2
                refine hq2.mono ?_
                rintro r w3 ⟨rfl, ⟨sv3, hwr3⟩, hb3⟩
                have HW : Hid (Wb w3 w.heap.size w.heap.size sv3 (enc l (k + 1)) ∧ Below w.heap.size (w.drewN j) w3) := by
                  refine ⟨?_, (below_drewN hbl nq).trans (hb2.trans hb3)⟩
                  rw [List.append_assoc, ← HQ.out] at hwr3
                  rw [← HN.out _ rfl]; exact hwr3
                clear hq hq2 hwr2 hwr3 hwr hbl hck hcp hb2 hb3
                go_wp2_with fail
                go_roundw
                case rel => exact ⟨k + 1, sv3, by omega, by go_num, by rw [HDN.out], HW.out.1, HW.out.2⟩
                case measure => simp [intOf]; omega
        · obtain rfl : k = n := by omega
          have hby := rbytes_any w.heap.size w.heap.size sv (enc l k) wr (by omega) hwr
          have HB : Hid (packB l = bytesOf (enc l k) ∧ packE l = 0) := ⟨by unfold packB; rw [if_pos HE.out, HL.out], HE.out⟩
          go_wp2_with fail
          refine hby.mono ?_
          rintro r w2 ⟨v, rfl, hown, hb2⟩
          have HF : Hid (w2.ownsRow w.heap.size 5 1 v (packB l).length ((packB l).map bv) ∧ Below w.heap.size w w2) := by
            rw [HB.out.1]
            exact ⟨own_base hown hbl.size, ((below_drewN (Below.refl _ w) j).trans hbl).trans (hb2.mono hbl.size)⟩
          clear hown hb2 hby hwr hbl
          go_wp2_with fail
          go_ret2
          refine ⟨v, ?_, HF.out.1, HF.out.2⟩
          rw [HB.out.2]; rfl
    · have he : packE l = 21 := by unfold packE; rw [if_neg (by omega), if_neg hgood]
      have HE := Lib.hid he
      have HB : Hid (packB l = []) := by show _ = _; unfold packB; rw [if_neg (by rw [he]; decide)]
      rw [Bool.eq_false_iff.2 hgood] at hrise
      clear hl he hgood
      go_enter Try.func18, Try.ntmps18
      go_wp2_with fail
      refine hrise.mono ?_
      rintro e w' ⟨rfl, j, rfl⟩
      go_wp2_with fail
      go_ret2
      refine ⟨.slice none 0 0, by rw [HE.out]; rfl, ?_, ⟨rfl, rfl, rfl, Nat.le_refl _, fun _ _ => rfl⟩⟩
      rw [HB.out]
      exact World.ownsRow_nil _ _ _ _
  · have he : packE l = 2 := by unfold packE; rw [if_pos (by omega)]
    have HE := Lib.hid he
    have HB : Hid (packB l = []) := by show _ = _; unfold packB; rw [if_neg (by rw [he]; decide)]
    clear hl he
    go_enter Try.func18, Try.ntmps18
    go_wp2_with fail
    go_ret2
    refine ⟨.slice none 0 0, by rw [HE.out]; rfl, ?_, Below.refl _ _⟩
    rw [HB.out]
    exact World.ownsRow_nil _ _ _ _
end Go.Proofs.Ytnbamngancchmaa
