/- What lysimeterref4.Rising answers. Condition: at most 10^9 numbers. -/
import Derived.Test.YtnbamngancchmaaEqual
import Derived.BigQuiet
import Derived.Deep.QuietTactic
namespace Go.Proofs.Ytnbamngancchmaa
open Go.RowKit PB PS

set_option maxRecDepth 100000 in
set_option maxHeartbeats 1000000 in
theorem rising_any (A : Option Addr) (n c B : Nat) (l : List Int) (w : World) (hr : Rd w B A n (ints l)) (hn : n ≤ 1000000000) :
    Calls Try.prog 41 #[.slice A n c] w fun e w' => e = .returned (.bool (good l l.length)) ∧ ∃ k, w' = w.drewN k := by
  have hl := hr.len
  have HL := Lib.hid hl
  clear hl
  go_enter Try.func41, Try.ntmps41
  go_wp2_with fail
  go_loopw [3] (fun i wr => ∃ k : Nat, k ≤ n ∧ i = .int .i64 k ∧ Hid (good l k = true) ∧ Hid (∃ j, wr = w.drewN j)) (fun i _ => n - (intOf i).toNat)
  case atStart => exact ⟨0, Nat.zero_le _, rfl, rfl, ⟨0, rfl⟩⟩
  case round =>
    obtain ⟨k, hk, rfl, HG, HW⟩ := hrel
    by_cases hlt : k < n
    · obtain ⟨j, hj⟩ := HW.out
      subst hj
      obtain ⟨b, off, rfl, hb, hc⟩ := hr.int hlt
      have hck := hc k hlt
      have hcp := hc (k - 1) (by omega)
      obtain ⟨x, hx⟩ : ∃ x, x = l.getD k 0 := ⟨_, rfl⟩
      obtain ⟨y, hy⟩ : ∃ y, y = l.getD (k - 1) 0 := ⟨_, rfl⟩
      rw [← hx] at hck
      rw [← hy] at hcp
      have HX := Lib.hid hx
      have HY := Lib.hid hy
      clear hx hy hc hr
      by_cases hgood : -9007199254740992 ≤ x ∧ x ≤ 9007199254740992 ∧ (0 < k → y < x)
      · obtain ⟨g1, g2, g3⟩ := hgood
        have HG2 : Hid (good l (k + 1) = true) := by
          show _ = _
          rw [good_succ, HG.out, Bool.true_and]
          exact goodAt_mk (by rw [← HX.out]; exact ⟨g1, g2⟩) (by rw [← HX.out, ← HY.out]; exact g3)
        rcases Nat.eq_zero_or_pos k with h0 | h0
        · subst h0
          clear g3
          rw [Nat.add_zero] at hck
          have d1 : decide (x < -9007199254740992) = false := decide_eq_false (by omega)
          have d2 : decide ((9007199254740992 : Int) < x) = false := decide_eq_false (by omega)
          have d3 : decide ((0 : Int) < 0) = false := rfl
          go_wp2_with fail
          go_quiet (fail)
          go_wp2_with fail
          go_roundw
          case rel => exact ⟨1, by omega, by go_num, HG2, ⟨_, rfl⟩⟩
          case measure => simp [intOf]; omega
        · have g4 := g3 h0
          clear g3
          have h1 : 0 ≤ (k : Int) - 1 := by omega
          have h1' : 1 ≤ (k : Int) := by omega
          have d1 : decide (x < -9007199254740992) = false := decide_eq_false (by omega)
          have d2 : decide ((9007199254740992 : Int) < x) = false := decide_eq_false (by omega)
          have d3 : decide ((0 : Int) < (k : Int)) = true := decide_eq_true (by omega)
          have d4 : decide (x ≤ y) = false := decide_eq_false (by omega)
          go_wp2_with fail
          go_quiet (fail)
          go_wp2_with fail
          go_roundw
          case rel => exact ⟨k + 1, by omega, by go_num, HG2, ⟨_, rfl⟩⟩
          case measure => simp [intOf]; omega
      · have HE : Hid (good l l.length = false) := by
          show _ = _
          rw [Bool.eq_false_iff]
          intro h
          have := goodAt_b (good_at h (i := k) (by rw [HL.out]; omega))
          rw [← HX.out, ← HY.out] at this
          exact hgood this
        have hcase : x < -9007199254740992 ∨ (-9007199254740992 ≤ x ∧ 9007199254740992 < x) ∨ (-9007199254740992 ≤ x ∧ x ≤ 9007199254740992 ∧ 0 < k ∧ x ≤ y) := by
          by_cases h1 : x < -9007199254740992
          · exact Or.inl h1
          · by_cases h2 : 9007199254740992 < x
            · exact Or.inr (Or.inl ⟨by omega, h2⟩)
            · by_cases h3 : 0 < k ∧ x ≤ y
              · exact Or.inr (Or.inr ⟨by omega, by omega, h3.1, h3.2⟩)
              · exact absurd ⟨by omega, by omega, fun h => by omega⟩ hgood
        clear hgood
        rcases hcase with h1 | ⟨h1, h2⟩ | ⟨h1, h2, h3, h4⟩
        · have d1 : decide (x < -9007199254740992) = true := decide_eq_true h1
          go_wp2_with fail
          go_quiet (fail)
          go_wp2_with fail
          go_ret
          exact ⟨by rw [HE.out]; rfl, _, World.drewN_drewN _ _ _⟩
        · have d1 : decide (x < -9007199254740992) = false := decide_eq_false (by omega)
          have d2 : decide ((9007199254740992 : Int) < x) = true := decide_eq_true h2
          go_wp2_with fail
          go_quiet (fail)
          go_wp2_with fail
          go_ret
          exact ⟨by rw [HE.out]; rfl, _, World.drewN_drewN _ _ _⟩
        · have h5 : 0 ≤ (k : Int) - 1 := by omega
          have h5' : 1 ≤ (k : Int) := by omega
          have d1 : decide (x < -9007199254740992) = false := decide_eq_false (by omega)
          have d2 : decide ((9007199254740992 : Int) < x) = false := decide_eq_false (by omega)
          have d3 : decide ((0 : Int) < (k : Int)) = true := decide_eq_true (by omega)
          have d4 : decide (x ≤ y) = true := decide_eq_true h4
          go_wp2_with fail
          go_quiet (fail)
          go_wp2_with fail
          go_ret
          exact ⟨by rw [HE.out]; rfl, _, World.drewN_drewN _ _ _⟩
    · have HF : Hid (good l l.length = true) := by
        show _ = _
        obtain rfl : k = n := by omega
        rw [HL.out]; exact HG.out
      obtain ⟨j, hj⟩ := HW.out
      subst hj
      go_wp2_with fail
      go_ret
      exact ⟨by rw [HF.out]; rfl, _, rfl⟩
end Go.Proofs.Ytnbamngancchmaa
