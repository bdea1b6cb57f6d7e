/- What varint.Get, and the reference's, answer: the number at the head of bytes, or that there is none. Conditions: at most 10^9 bytes, each below 256. -/
import Derived.Test.YtghklmhmhekjgaaVint
namespace Go.Proofs.Ytghklmhmhekjgaa
open Go.RowKit PC

/-- What Get answers: the number (as an int), how many bytes, the error. -/
def VgV (l : List Nat) : Int := match vget l with | some (u, _) => wrap64 (u : Int) | none => 0
def VgK (l : List Nat) : Int := match vget l with | some (_, k) => (k : Int) | none => 0
def VgE (l : List Nat) : Int := if (vget l).isSome then 0 else 5
def VgPost (w : World) (l : List Nat) (r : Ending) (w' : World) : Prop := r = .returned (.tuple #[.int .i64 (VgV l), .int .i64 (VgK l), .int .i64 (VgE l)]) ∧ w' = w
theorem VgPost.some {w : World} {l : List Nat} {u k : Nat} (h : vget l = .some (u, k)) : VgPost w l (.returned (.tuple #[.int .i64 (wrap64 (u : Int)), .int .i64 (k : Int), .int .i64 0])) w := by
  unfold VgPost VgV VgK VgE; rw [h]; exact ⟨rfl, rfl⟩
theorem VgPost.none {w : World} {l : List Nat} (h : vget l = .none) : VgPost w l (.returned (.tuple #[.int .i64 0, .int .i64 0, .int .i64 5])) w := by
  unfold VgPost VgV VgK VgE; rw [h]; exact ⟨rfl, rfl⟩

theorem and127b (x : Nat) (hx : x < 256) : bits .and .u8 (x : Int) 127 = ((x % 128 : Nat) : Int) := by
  have := u8_and_nat x 127 hx (by omega)
  rw [show x &&& 127 = x % 128 from Nat.and_two_pow_sub_one_eq_mod x 7] at this
  exact this
theorem pow7 (k : Nat) : 2 ^ (7 * k) = 128 ^ k := by rw [Nat.pow_mul]
theorem shl7 {y k : Nat} (h : y * 128 ^ k < 18446744073709551616) : IntKind.u64.wrap ((y : Int) * 2 ^ (7 * k)) = ((y * 128 ^ k : Nat) : Int) := by
  have e : (y : Int) * 2 ^ (7 * k) = ((y * 128 ^ k : Nat) : Int) := by
    rw [← pow7, Int.natCast_mul, Int.natCast_pow]; rfl
  rw [e, show ∀ v : Int, IntKind.u64.wrap v = v % 18446744073709551616 from fun v => by simp [IntKind.wrap, IntKind.bits, IntKind.signed]]
  omega
theorem or_add {a y k : Nat} (ha : a < 128 ^ k) (h : y * 128 ^ k < 18446744073709551616) (ha2 : a < 18446744073709551616) : bits .or .u64 (a : Int) ((y * 128 ^ k : Nat) : Int) = ((a + y * 128 ^ k : Nat) : Int) := by
  rw [u64_or_nat a _ ha2 h]
  congr 1
  rw [← pow7] at ha ⊢
  rw [Nat.mul_comm y, Nat.or_comm, ← Nat.two_pow_add_eq_or_of_lt ha, Nat.add_comm]
theorem pow128_le {k : Nat} (h : k ≤ 9) : 128 ^ k ≤ 9223372036854775808 := by
  have := Nat.pow_le_pow_right (n := 128) (by omega) h
  omega
set_option maxRecDepth 100000 in
set_option maxHeartbeats 1000000 in
theorem vint_get (A : Option Addr) (n c B : Nat) (l : List Nat) (w : World) (hr : Rd w B A n (l.map bv)) (hn : n ≤ 1000000000) (hb : ∀ x ∈ l, x < 256) :
    Calls Try.prog 29 #[.slice A n c] w (VgPost w l) := by
  have hl := hr.blen
  have HB := Lib.hid hb
  have HL := Lib.hid hl
  clear hb hl
  go_enter Try.func29, Try.ntmps29
  go_wp2_with fail
  go_loopw [5, 10] (fun x i wr => ∃ (k acc : Nat), k ≤ n ∧ k ≤ 9 ∧ i = .int .i64 k ∧ x = .int .u64 (acc : Int) ∧ acc < 128 ^ k ∧ Hid (vget l = vgetL (l.drop k) k acc) ∧ wr = w) (fun _ i _ => n - (intOf i).toNat)
  case atStart => exact ⟨0, 0, Nat.zero_le _, by omega, rfl, rfl, by simp, rfl, rfl⟩
  case round =>
    obtain ⟨k, acc, hk, hk9, rfl, rfl, hacc, HG, rfl⟩ := hrel
    by_cases hlt : k < n
    · obtain ⟨b, off, rfl, hbB, hc⟩ := hr.byte hlt
      have hck := hc k hlt
      obtain ⟨x, hx⟩ : ∃ x, x = l.getD k 0 := ⟨_, rfl⟩
      rw [← hx] at hck
      have HX : Hid (l.drop k = x :: l.drop (k + 1) ∧ x < 256) := by
        have hkl : k < l.length := by rw [HL.out]; exact hlt
        have e : x = l[k] := by rw [hx]; simp [List.getD, hkl]
        exact ⟨by rw [e]; exact List.drop_eq_getElem_cons hkl, by rw [e]; exact HB.out _ (List.getElem_mem hkl)⟩
      have hx256 := HX.out.2
      clear hx hc
      have hp9 := pow128_le hk9
      have hand := and127b x hx256
      obtain ⟨y, hy⟩ : ∃ y, y = x % 128 := ⟨_, rfl⟩
      rw [← hy] at hand
      have hwy : IntKind.u64.wrap (y : Int) = (y : Int) := by
        rw [show ∀ v : Int, IntKind.u64.wrap v = v % 18446744073709551616 from fun v => by simp [IntKind.wrap, IntKind.bits, IntKind.signed]]
        omega
      have HY := Lib.hid hy
      have hg : vget l = vgetL (x :: l.drop (k + 1)) k acc := by rw [← HX.out.1]; exact HG.out
      rw [vgetL] at hg
      have hy128 : y < 128 := by omega
      clear HG hy
      rcases Nat.lt_or_ge k 9 with h9 | h9
      · have hmul : y * 128 ^ k < 18446744073709551616 := by
          have : y * 128 ^ k ≤ 127 * 128 ^ k := Nat.mul_le_mul_right _ (by omega)
          have h8 := Nat.pow_le_pow_right (n := 128) (by omega) (show k ≤ 8 by omega)
          omega
        have hsh := shl7 hmul
        have hor := or_add hacc hmul (by omega)
        obtain ⟨S, hS⟩ : ∃ S, S = y * 128 ^ k := ⟨_, rfl⟩
        rw [← hS] at hsh hor
        rw [if_neg (by omega), ← HY.out, ← hS] at hg
        have hSl : acc + S < 128 ^ (k + 1) := by
          rw [hS, Nat.pow_succ]
          have : y * 128 ^ k ≤ 127 * 128 ^ k := Nat.mul_le_mul_right _ (by omega)
          omega
        have hkb : ((k : Int) == 9) = false := by simp; omega
        clear hS hmul
        by_cases h128 : 128 ≤ x
        · rw [if_pos h128] at hg
          have HG := Lib.hid hg
          clear hg
          obtain ⟨acc2, ha2⟩ : ∃ a, a = acc + S := ⟨_, rfl⟩
          rw [← ha2] at hor HG hSl
          clear ha2
          go_wp2_with fail
          go_roundw
          case rel => exact ⟨k + 1, acc2, by omega, by omega, by go_num, by go_num, hSl, HG.out, trivial⟩
          case measure => simp [intOf]; omega
        · rw [if_neg h128] at hg
          by_cases h0 : x = 0 ∧ 0 < k
          · rw [if_pos h0] at hg
            have HP := Lib.hid (VgPost.none (w := wr) hg)
            obtain ⟨hx0, hk0⟩ := h0
            have hxb : ((x : Int) == 0) = true := by simp; omega
            clear hg hx0
            go_wp2_with fail
            ((try simp only [Exit.inBlock, Exit.then]); refine bodyPost_ret (results_tmp3 rfl _ _ _) rfl ?_)
            exact HP.out
          · rw [if_neg h0] at hg
            have HP := Lib.hid (VgPost.some (w := wr) hg)
            obtain ⟨acc2, ha2⟩ : ∃ a, a = acc + S := ⟨_, rfl⟩
            rw [← ha2] at hor HP
            have hcs : ((x : Int) == 0) = false ∨ (((x : Int) == 0) = true ∧ ¬ 0 < k) := by
              rcases Nat.eq_zero_or_pos x with h | h
              · exact Or.inr ⟨by simp; omega, fun hk => h0 ⟨h, hk⟩⟩
              · exact Or.inl (by simp; omega)
            clear hg ha2 h0
            rcases hcs with hxb | ⟨hxb, hk0⟩
            all_goals
              go_wp2_with fail
              ((try simp only [Exit.inBlock, Exit.then]); refine bodyPost_ret (results_tmp3 rfl _ _ _) rfl ?_)
              exact HP.out
      · obtain rfl : k = 9 := by omega
        by_cases hx1 : 1 < x
        · rw [if_pos ⟨rfl, hx1⟩] at hg
          have HP := Lib.hid (VgPost.none (w := wr) hg)
          clear hg
          go_wp2_with fail
          ((try simp only [Exit.inBlock, Exit.then]); refine bodyPost_ret (results_tmp3 rfl _ _ _) rfl ?_)
          exact HP.out
        · have hy1 : y ≤ 1 := by rw [HY.out]; omega
          have hmul : y * 128 ^ 9 < 18446744073709551616 := by omega
          have hsh := shl7 hmul
          have hor := or_add hacc hmul (by omega)
          obtain ⟨S, hS⟩ : ∃ S, S = y * 128 ^ 9 := ⟨_, rfl⟩
          rw [← hS] at hsh hor
          rw [show (2 : Int) ^ (7 * 9) = 9223372036854775808 by decide] at hsh
          rw [if_neg (by omega), if_neg (by omega), ← HY.out, ← hS] at hg
          clear hS hmul
          by_cases h0 : x = 0
          · rw [if_pos ⟨h0, by omega⟩] at hg
            have HP := Lib.hid (VgPost.none (w := wr) hg)
            have hxb : ((x : Int) == 0) = true := by simp; omega
            clear hg h0
            go_wp2_with fail
            ((try simp only [Exit.inBlock, Exit.then]); refine bodyPost_ret (results_tmp3 rfl _ _ _) rfl ?_)
            exact HP.out
          · rw [if_neg (fun h => h0 h.1)] at hg
            have HP := Lib.hid (VgPost.some (w := wr) hg)
            obtain ⟨acc2, ha2⟩ : ∃ a, a = acc + S := ⟨_, rfl⟩
            rw [← ha2] at hor HP
            have hxb : ((x : Int) == 0) = false := by simp; omega
            clear hg ha2 h0
            go_wp2_with fail
            ((try simp only [Exit.inBlock, Exit.then]); refine bodyPost_ret (results_tmp3 rfl _ _ _) rfl ?_)
            exact HP.out
    · obtain rfl : k = n := by omega
      have hg := HG.out
      rw [List.drop_eq_nil_of_le (by rw [HL.out]; exact Nat.le_refl _)] at hg
      have HP := Lib.hid (VgPost.none (w := wr) hg)
      clear hg
      go_wp2_with fail
      ((try simp only [Exit.inBlock, Exit.then]); refine bodyPost_ret (results_tmp3 rfl _ _ _) rfl ?_)
      exact HP.out
end Go.Proofs.Ytghklmhmhekjgaa
