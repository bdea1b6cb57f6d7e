/- Same, of two lists that are one: true. Conditions: at most 10^6 plans. -/
import Derived.Test.YtghklmhmhekjgaaAps
import Derived.BigQuiet
namespace Go.Proofs.Ytghklmhmhekjgaa
open Go.RowKit

set_option maxRecDepth 100000 in
set_option maxHeartbeats 2000000 in
theorem same16 (A A' : Option Addr) (n c c' B B' : Nat) (L : List Pl) (w : World) (h : Pv w B A n L) (h' : Pv w B' A' n L) (hn : n ≤ 1000000) :
    Calls Try.prog 16 #[.slice A n c, .slice A' n c'] w fun e w' => e = .returned (.bool true) ∧ ∃ q, w' = w.drewN q := by
  have hl := h.1
  go_enter Try.func16, Try.ntmps16
  go_wp2_with fail
  go_loopw [5] (fun i wr => ∃ k q : Nat, k ≤ n ∧ i = .int .i64 k ∧ wr = w.drewN q) (fun i _ => n - (intOf i).toNat)
  case atStart => exact ⟨0, 0, Nat.zero_le _, rfl, rfl⟩
  case round =>
    obtain ⟨k, q, hk, rfl, rfl⟩ := hrel
    by_cases hlt : k < n
    · obtain ⟨b1, o1, rfl, _, hc1⟩ := h.at4 hlt
      obtain ⟨b2, o2, rfl, _, hc2⟩ := h'.at4 hlt
      obtain ⟨p, hp⟩ : ∃ p, L[k]? = some p := ⟨_, List.getElem?_eq_getElem (by omega)⟩
      obtain ⟨p0, p1, p2, p3⟩ := hc1 k p hp
      obtain ⟨q0, q1, q2, q3⟩ := hc2 k p hp
      obtain ⟨pn, pf, pt, pr⟩ := p
      simp only at p0 p1 p2 p3 q0 q1 q2 q3
      obtain ⟨w1, hw1⟩ : ∃ w1, w1 = w.drewN q := ⟨_, rfl⟩
      have HW := Lib.hid hw1
      have e1 : ∀ x : Addr, w1.cell? x = w.cell? x := fun x => by rw [hw1]; rfl
      rw [← e1] at p0 p1 p2 p3 q0 q1 q2 q3
      rw [← hw1]
      have z1 : (0 : Int) ≤ (k : Int) := by omega
      have z2 : (k : Int) < (n : Int) := by omega
      clear hc1 hc2 hp e1 hw1 h h' hl
      go_wp2_with fail
      go_quiet (fail)
      go_wp2_with fail
      go_roundw
      case rel => exact ⟨k + 1, _, by omega, by go_num, by rw [HW.out]; exact World.drewN_drewN _ _ _⟩
      case measure => simp [intOf]; omega
    · obtain rfl : k = n := by omega
      go_wp2_with fail
      go_ret
      exact ⟨rfl, _, rfl⟩
end Go.Proofs.Ytghklmhmhekjgaa
