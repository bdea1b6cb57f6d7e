/- A number as digits, below 100. -/
import Derived.Test.YtedjfbkfaioihaaOne
namespace Go.Proofs.Ytedjfbkfaioihaa
open Go.RowKit Go.Shelf Go.Maps

set_option maxRecDepth 100000 in
set_option maxHeartbeats 1000000 in
theorem size48 (n : Nat) (hn : n ≤ 100) (w : World) : Calls Try.prog 48 #[.int .i64 (n : Int)] w fun e w' => e = .returned (.int .u64 (n : Int)) ∧ w' = w := by
  have d1 : decide ((n : Int) < 0) = false := decide_eq_false (by omega)
  go_enter Try.func48, Try.ntmps48
  go_wp2_with fail
  go_ret
  exact ⟨by first | rfl | go_num, rfl⟩
set_option maxRecDepth 100000 in
set_option maxHeartbeats 2000000 in
theorem digit47 (n : Nat) (hn : n ≤ 9) (w : World) : Calls Try.prog 47 #[.int .u64 (n : Int)] w fun e w' => (∃ s : ByteArray, e = .returned (.string s) ∧ s.size ≤ 10) ∧ Below w.heap.size w w' := by
  have d1 : decide ((9 : Int) < (n : Int)) = false := decide_eq_false (by omega)
  go_enter Try.func47, Try.ntmps47
  go_wp2_with fail
  go_ret
  exact ⟨⟨_, rfl, by rw [ByteArray.size_extract]; show min _ 10 - _ ≤ 10; omega⟩, Below.refl _ _⟩
set_option maxRecDepth 100000 in
set_option maxHeartbeats 2000000 in
theorem digits47 (n : Nat) (hn : n ≤ 99) (w : World) : Calls Try.prog 47 #[.int .u64 (n : Int)] w fun e w' => (∃ s : ByteArray, e = .returned (.string s) ∧ s.size ≤ 20) ∧ Below w.heap.size w w' := by
  by_cases h9 : n ≤ 9
  · refine (digit47 n h9 w).mono ?_
    rintro e w' ⟨⟨s, he, hs⟩, hb⟩
    exact ⟨⟨s, he, by omega⟩, hb⟩
  · have d1 : decide ((9 : Int) < (n : Int)) = true := decide_eq_true (by omega)
    have hd := digit47 (n / 10) (by omega) w
    clear h9
    go_enter Try.func47, Try.ntmps47
    go_wp2_with fail
    have hd' : Calls Try.prog 47 #[.int .u64 ((n : Int) / 10)] w fun e w' => (∃ s : ByteArray, e = .returned (.string s) ∧ s.size ≤ 10) ∧ Below w.heap.size w w' := by
      have e : (n : Int) / 10 = ((n / 10 : Nat) : Int) := by omega
      rw [e]; exact hd
    refine hd'.mono ?_
    clear hd hd'
    rintro e w1 ⟨⟨s, rfl, hs⟩, hb⟩
    have hc : ¬ 9223372036854775807 < s.size + (min (n % 10 + 1) 10 - n % 10) := by omega
    go_wp2_with fail
    go_ret
    exact ⟨⟨_, rfl, by rw [ByteArray.size_append, ByteArray.size_extract]; show s.size + (min _ 10 - _) ≤ 20; omega⟩, hb⟩
set_option maxRecDepth 100000 in
set_option maxHeartbeats 1000000 in
theorem number16 (n : Nat) (hn : n ≤ 99) (w : World) : Calls Try.prog 16 #[.int .i64 (n : Int)] w fun e w' => (∃ s : ByteArray, e = .returned (.string s) ∧ s.size ≤ 20) ∧ Below w.heap.size w w' := by
  have d1 : decide ((n : Int) < 0) = false := decide_eq_false (by omega)
  have hd := digits47 n hn w
  have W1 : IntKind.u64.wrap (n : Int) = (n : Int) := by rw [IntKind.wrap_u64]; omega
  go_enter Try.func16, Try.ntmps16
  go_wp2_with fail
  refine hd.mono ?_
  clear hd
  rintro e w1 ⟨⟨s, rfl, hs⟩, hb⟩
  go_wp2_with fail
  go_ret
  exact ⟨⟨_, rfl, hs⟩, hb⟩
end Go.Proofs.Ytedjfbkfaioihaa
