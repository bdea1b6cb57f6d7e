/- What the reference's Get answers: the same as varint.Get. Conditions: at most 10^9 bytes, each below 256. -/
import Derived.Test.YtghklmhmhekjgaaVintg
namespace Go.Proofs.Ytghklmhmhekjgaa
open Go.RowKit PC

set_option maxRecDepth 100000 in
set_option maxHeartbeats 1000000 in
theorem rvint_get (A : Option Addr) (n c B : Nat) (l : List Nat) (w : World) (hr : Rd w B A n (l.map bv)) (hn : n ≤ 1000000000) (hb : ∀ x ∈ l, x < 256) :
    Calls Try.prog 32 #[.slice A n c] w (VgPost w l) := by
  have hl := hr.blen
  have HB := Lib.hid hb
  have HL := Lib.hid hl
  clear hb hl
  go_enter Try.func32, Try.ntmps32
  go_wp2_with fail
  go_loopw [5, 6] (fun x i wr => ∃ (k acc : Nat), k ≤ n ∧ i = .int .i64 k ∧ x = .int .u64 (acc : Int) ∧ Hid ((k ≤ 9 ∧ acc < 128 ^ k ∧ vget l = vgetL (l.drop k) k acc) ∨ (k = 10 ∧ vget l = none)) ∧ wr = w) (fun _ i _ => n - (intOf i).toNat)
  case atStart => exact ⟨0, 0, Nat.zero_le _, rfl, rfl, Or.inl ⟨by omega, by simp, rfl⟩, rfl⟩
  case round =>
    obtain ⟨k, acc, hk, rfl, rfl, HC, rfl⟩ := hrel
    by_cases hlt : k < n
    · rcases HC.out with ⟨hk9, hacc, hg0⟩ | ⟨rfl, hg0⟩
      · have HG := Lib.hid hg0
        obtain ⟨b, off, rfl, hbB, hc⟩ := hr.byte hlt
        have hck := hc k hlt
        obtain ⟨x, hx⟩ : ∃ x, x = l.getD k 0 := ⟨_, rfl⟩
        rw [← hx] at hck
        have HX : Hid (l.drop k = x :: l.drop (k + 1) ∧ x < 256) := by
          have hkl : k < l.length := by rw [HL.out]; exact hlt
          have e : x = l[k] := by rw [hx]; simp [List.getD, hkl]
          exact ⟨by rw [e]; exact List.drop_eq_getElem_cons hkl, by rw [e]; exact HB.out _ (List.getElem_mem hkl)⟩
        have hx256 := HX.out.2
        clear hx hc hg0 HC
        have hp9 := pow128_le hk9
        have hand := and127b x hx256
        obtain ⟨y, hy⟩ : ∃ y, y = x % 128 := ⟨_, rfl⟩
        rw [← hy] at hand
        have hwy : IntKind.u64.wrap (y : Int) = (y : Int) := by
          rw [show ∀ v : Int, IntKind.u64.wrap v = v % 18446744073709551616 from fun v => by simp [IntKind.wrap, IntKind.bits, IntKind.signed]]
          omega
        have HY := Lib.hid hy
        have hg : vget l = vgetL (x :: l.drop (k + 1)) k acc := by rw [← HX.out.1]; exact HG.out
        rw [vgetL] at hg
        have hy128 : y < 128 := by omega
        clear HG hy
        rcases Nat.lt_or_ge k 9 with h9 | h9
        · have hmul : y * 128 ^ k < 18446744073709551616 := by
            have : y * 128 ^ k ≤ 127 * 128 ^ k := Nat.mul_le_mul_right _ (by omega)
            have h8 := Nat.pow_le_pow_right (n := 128) (by omega) (show k ≤ 8 by omega)
            omega
          have hsh := shl7 hmul
          have hor := or_add hacc hmul (by omega)
          obtain ⟨S, hS⟩ : ∃ S, S = y * 128 ^ k := ⟨_, rfl⟩
          rw [← hS] at hsh hor
          rw [if_neg (by omega), ← HY.out, ← hS] at hg
          have hSl : acc + S < 128 ^ (k + 1) := by
            rw [hS, Nat.pow_succ]
            have : y * 128 ^ k ≤ 127 * 128 ^ k := Nat.mul_le_mul_right _ (by omega)
            omega
          have hkb : ((k : Int) == 9) = false := by simp; omega
          clear hS hmul
          by_cases h128 : 128 ≤ x
          · rw [if_pos h128] at hg
            obtain ⟨acc2, ha2⟩ : ∃ a, a = acc + S := ⟨_, rfl⟩
            rw [← ha2] at hor hg hSl
            have HG : Hid ((k + 1 ≤ 9 ∧ acc2 < 128 ^ (k + 1) ∧ vget l = vgetL (l.drop (k + 1)) (k + 1) acc2) ∨ (k + 1 = 10 ∧ vget l = none)) := Or.inl ⟨by omega, hSl, hg⟩
            clear ha2 hg hSl
            go_wp2_with fail
            go_roundw
            case rel => exact ⟨k + 1, acc2, by omega, by go_num, by go_num, HG.out, trivial⟩
            case measure => simp [intOf]; omega
          · rw [if_neg h128] at hg
            have hyx : y = x := by rw [HY.out]; omega
            by_cases h0 : x = 0 ∧ 0 < k
            · rw [if_pos h0] at hg
              have HP := Lib.hid (VgPost.none (w := wr) hg)
              obtain ⟨hx0, hk0⟩ := h0
              have hxb : ((y : Int) == 0) = true := by simp; omega
              clear hg hx0 hyx
              go_wp2_with fail
              ((try simp only [Exit.inBlock, Exit.then]); refine bodyPost_ret (results_tmp3 rfl _ _ _) rfl ?_)
              exact HP.out
            · rw [if_neg h0] at hg
              have HP := Lib.hid (VgPost.some (w := wr) hg)
              obtain ⟨acc2, ha2⟩ : ∃ a, a = acc + S := ⟨_, rfl⟩
              rw [← ha2] at hor HP
              have hcs : ((y : Int) == 0) = false ∨ (((y : Int) == 0) = true ∧ ¬ 0 < k) := by
                rcases Nat.eq_zero_or_pos x with h | h
                · exact Or.inr ⟨by simp; omega, fun hk => h0 ⟨h, hk⟩⟩
                · exact Or.inl (by simp; omega)
              clear hg ha2 h0 hyx
              rcases hcs with hxb | ⟨hxb, hk0⟩
              all_goals
                go_wp2_with fail
                ((try simp only [Exit.inBlock, Exit.then]); refine bodyPost_ret (results_tmp3 rfl _ _ _) rfl ?_)
                exact HP.out
        · obtain rfl : k = 9 := by omega
          by_cases hy1 : 1 < y
          · have hx1 : 1 < x := by have := HY.out; omega
            rw [if_pos ⟨rfl, hx1⟩] at hg
            have HP := Lib.hid (VgPost.none (w := wr) hg)
            clear hg hx1
            go_wp2_with fail
            ((try simp only [Exit.inBlock, Exit.then]); refine bodyPost_ret (results_tmp3 rfl _ _ _) rfl ?_)
            exact HP.out
          · have hmul : y * 128 ^ 9 < 18446744073709551616 := by omega
            have hsh := shl7 hmul
            have hor := or_add hacc hmul (by omega)
            obtain ⟨S, hS⟩ : ∃ S, S = y * 128 ^ 9 := ⟨_, rfl⟩
            rw [← hS] at hsh hor
            rw [show (2 : Int) ^ (7 * 9) = 9223372036854775808 by decide] at hsh
            by_cases h128 : 128 ≤ x
            · rw [if_pos ⟨rfl, by omega⟩] at hg
              obtain ⟨acc2, ha2⟩ : ∃ a, a = acc + S := ⟨_, rfl⟩
              rw [← ha2] at hor
              have HG : Hid ((9 + 1 ≤ 9 ∧ acc2 < 128 ^ (9 + 1) ∧ vget l = vgetL (l.drop (9 + 1)) (9 + 1) acc2) ∨ (9 + 1 = 10 ∧ vget l = none)) := Or.inr ⟨rfl, hg⟩
              clear ha2 hg hS hmul
              go_wp2_with fail
              go_roundw
              case rel => exact ⟨9 + 1, acc2, by omega, by go_num, by go_num, HG.out, trivial⟩
              case measure => simp [intOf]; omega
            · have hyx : y = x := by rw [HY.out]; omega
              rw [if_neg (by omega), if_neg h128, ← HY.out, ← hS] at hg
              clear hS hmul
              by_cases h0 : x = 0
              · rw [if_pos ⟨h0, by omega⟩] at hg
                have HP := Lib.hid (VgPost.none (w := wr) hg)
                have hxb : ((y : Int) == 0) = true := by simp; omega
                clear hg h0 hyx
                go_wp2_with fail
                ((try simp only [Exit.inBlock, Exit.then]); refine bodyPost_ret (results_tmp3 rfl _ _ _) rfl ?_)
                exact HP.out
              · rw [if_neg (fun h => h0 h.1)] at hg
                have HP := Lib.hid (VgPost.some (w := wr) hg)
                obtain ⟨acc2, ha2⟩ : ∃ a, a = acc + S := ⟨_, rfl⟩
                rw [← ha2] at hor HP
                have hxb : ((y : Int) == 0) = false := by simp; omega
                clear hg ha2 h0 hyx
                go_wp2_with fail
                ((try simp only [Exit.inBlock, Exit.then]); refine bodyPost_ret (results_tmp3 rfl _ _ _) rfl ?_)
                exact HP.out
      · have HP := Lib.hid (VgPost.none (w := wr) hg0)
        clear hg0 HC
        go_wp2_with fail
        ((try simp only [Exit.inBlock, Exit.then]); refine bodyPost_ret (results_tmp3 rfl _ _ _) rfl ?_)
        exact HP.out
    · obtain rfl : k = n := by omega
      have hg : vget l = none := by
        rcases HC.out with ⟨_, _, hg⟩ | ⟨_, hg⟩
        · rw [hg, List.drop_eq_nil_of_le (by rw [HL.out]; exact Nat.le_refl _)]; rfl
        · exact hg
      have HP := Lib.hid (VgPost.none (w := wr) hg)
      clear hg HC
      go_wp2_with fail
      ((try simp only [Exit.inBlock, Exit.then]); refine bodyPost_ret (results_tmp3 rfl _ _ _) rfl ?_)
      exact HP.out
end Go.Proofs.Ytghklmhmhekjgaa
