/- What the law's Same answers of two lists of matchers that read alike. Conditions: at most 10^6 matchers. -/
import Derived.Test.YtlicnadbccjbjaaDoorMref
import Derived.BigQuiet
namespace Go.Proofs.YtlicnadbccjbjaaDoor
open Go.RowKit LB

set_option maxRecDepth 100000 in
set_option maxHeartbeats 1000000 in
theorem msame23 (A1 A2 : Option Addr) (n c1 B1 c2 B2 : Nat) (l : List Mat) (w : World) (h1 : Mv w B1 A1 n l) (h2 : Mv w B2 A2 n l) (hn : n ≤ 1000000) :
    Calls Tryd.prog 23 #[.slice A1 n c1, .slice A2 n c2] w fun e w' => e = .returned (.bool true) ∧ ∃ k, w' = w.drewN k := by
  go_enter Tryd.func23, Tryd.ntmps23
  go_wp2_with fail
  go_loopw [5] (fun i wr => ∃ k : Nat, k ≤ n ∧ i = .int .i64 k ∧ ∃ q, wr = w.drewN q) (fun i _ => n - (intOf i).toNat)
  case atStart => exact ⟨0, Nat.zero_le _, rfl, 0, rfl⟩
  case round =>
    obtain ⟨k, hk, rfl, q, rfl⟩ := hrel
    by_cases hlt : k < n
    · obtain ⟨x, hx⟩ : ∃ x, l[k]? = some x := ⟨_, List.getElem?_eq_getElem (by rw [h1.1]; exact hlt)⟩
      obtain ⟨b1, o1, rfl, hb1, hc1⟩ := (h1.drewN q).at3 hlt
      obtain ⟨b2, o2, rfl, hb2, hc2⟩ := (h2.drewN q).at3 hlt
      obtain ⟨p0, p1, p2⟩ := hc1 k x hx
      obtain ⟨q0, q1, q2⟩ := hc2 k x hx
      obtain ⟨kd, nm, vl⟩ := x
      have zk : (k : Int) < (n : Int) := by omega
      have zk0 : (0 : Int) ≤ (k : Int) := by omega
      have e1 : (nm.toList == nm.toList) = true := by simp
      have e2 : (vl.toList == vl.toList) = true := by simp
      have e3 : (kd == kd) = true := by simp
      obtain ⟨w2, hw2⟩ : ∃ w2, w2 = w.drewN q := ⟨_, rfl⟩
      have HW := Lib.hid hw2
      rw [← hw2] at p0 p1 p2 q0 q1 q2 ⊢
      clear hc1 hc2 hx hw2
      go_wp2_with fail
      go_quiet (fail)
      go_wp2_with fail
      go_roundw
      case rel => exact ⟨k + 1, by omega, by go_num, _, by rw [HW.out]; exact World.drewN_drewN _ _ _⟩
      case measure => simp [intOf]; omega
    · obtain rfl : k = n := by omega
      go_wp2_with fail
      go_ret
      exact ⟨rfl, q, rfl⟩
end Go.Proofs.YtlicnadbccjbjaaDoor
