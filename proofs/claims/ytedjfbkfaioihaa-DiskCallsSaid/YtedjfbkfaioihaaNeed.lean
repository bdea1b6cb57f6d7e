/- What the disk's steps give up with, and how that is caught. No conditions. -/
import Derived.Test.YtedjfbkfaioihaaWords
import Derived.Test.YtedjfbkfaioihaaProg
import Derived.WalkKit
import Derived.Defers
import Derived.Recover
import Derived.WalkLawsBesides
namespace Go.Proofs.Ytedjfbkfaioihaa
open Go.RowKit

/-- What a step gives up with. -/
def stopv (e : Int) : Value := .iface 111 (.agg #[.int .i64 e])

set_option maxHeartbeats 1000000 in
theorem need_yes (e : Int) (w : World) : Calls Try.prog 39 #[.bool true, .int .i64 e] w fun r w' => r = .returned (.tuple #[]) ∧ w' = w := by
  go_enter Try.func39, Try.ntmps39
  go_wp2
  go_end0
  exact ⟨rfl, rfl⟩
set_option maxHeartbeats 1000000 in
theorem need_no (e : Int) (w : World) : Calls Try.prog 39 #[.bool false, .int .i64 e] w fun r w' => r = .panicked [{ v := stopv e, recovered := false }] ∧ w' = w := by
  go_enter Try.func39, Try.ntmps39
  go_wp2
  exact ⟨rfl, rfl, rfl⟩
set_option maxHeartbeats 1000000 in
theorem must_no (w : World) : Calls Try.prog 80 #[.int .i64 10] w fun r w' => r = .panicked [{ v := stopv 10, recovered := false }] ∧ w' = w := by
  go_enter Try.func80, Try.ntmps80
  go_wp2
  exact ⟨rfl, rfl, rfl⟩
/-- One less, down to none. -/
def less (n : Int) : Int := if 0 < n then n - 1 else n
set_option maxHeartbeats 1000000 in
theorem less81 (n : Int) (w : World) (h : n ≤ 9223372036854775807) : Calls Try.prog 81 #[.int .i64 n] w fun r w' => r = .returned (.int .i64 (less n)) ∧ w' = w := by
  by_cases h0 : 0 < n
  · have d : decide (0 < n) = true := decide_eq_true h0
    have e : less n = n - 1 := if_pos h0
    rw [e]
    clear e
    go_enter Try.func81, Try.ntmps81
    go_wp2_with fail
    go_ret
    exact ⟨rfl, rfl⟩
  · have d : decide (0 < n) = false := decide_eq_false h0
    have e : less n = n := if_neg h0
    rw [e]
    clear e
    go_enter Try.func81, Try.ntmps81
    go_wp2_with fail
    go_ret
    exact ⟨rfl, rfl⟩

set_option maxRecDepth 100000 in
set_option maxHeartbeats 1000000 in
theorem catch_panicking (b : Nat) (x c : Int) (older : List PanicEntry) (w : World) (hA : Arr w b 25 #[.int .i64 x]) :
    CallsD Try.prog 79 #[.pointer (some ⟨b, 0, none⟩)] (.panicking ({ v := stopv c, recovered := false } :: older)) w fun e u' w' =>
      e = .returned (.tuple #[]) ∧ u' = .panicking ({ v := stopv c, recovered := true } :: older) ∧ w' = (w.alloc (.cells #[.int .i64 c] 111)).setCell ⟨b, 0, none⟩ (.int .i64 c) := by
  have hA1 := hA.alloc (.cells #[.int .i64 c] 111)
  have hc := hA1.at_ (i := 0) rfl
  have hz := hA1.frozen 0
  clear hA1
  refine callsD_of_wpS Try.func79 rfl fun c₀ cs hu => ?_
  apply wpS_seq
  apply wpS_region
  simp [wpOpsS, go_sem, recoverD, hu, Try.ntmps79, Exit.thenS]
  have hta : ∀ w, (Instr.typeAssert (.iface 111 (.agg #[.int .i64 c])) 20 111 true).run Try.prog w = .ok (.tuple #[.agg #[.int .i64 c], .bool true]) w := fun _ => by kernel_rfl
  have hnq : ∀ w, (binOp .neq 20 (.iface 111 (.agg #[.int .i64 c])) .nilIface).run Try.prog w = .ok (.bool true) w := fun _ => by kernel_rfl
  refine wpS_of_wp ?_
  unfold stopv
  clear hu
  simp only [Array.replicate_succ, Array.replicate_zero, List.push_toArray, List.append_toArray, List.nil_append, List.cons_append, List.setIfInBounds_toArray, List.set_cons_zero, List.set_cons_succ]
  go_wp2_with fail
  cases c₀
  simp [bodyPostS, results, Try.results79, go_sem]
theorem catch_idle (p : Addr) (w : World) :
    CallsD Try.prog 79 #[.pointer (some p)] .returning w fun e u' w' => e = .returned (.tuple #[]) ∧ u' = .returning ∧ w' = w := by
  refine callsD_of_wpS Try.func79 rfl fun c₀ cs hu => ?_
  apply wpS_seq
  apply wpS_region
  simp [wpOpsS, go_sem, recoverD, hu, Try.ntmps79, Exit.thenS]
  refine wpS_of_wp ?_
  simp only [Array.replicate_succ, Array.replicate_zero, List.push_toArray, List.append_toArray, List.nil_append, List.cons_append, List.setIfInBounds_toArray, List.set_cons_zero, List.set_cons_succ]
  go_wp2
  cases c₀
  simp_all [bodyPostS, results, Try.results79]
end Go.Proofs.Ytedjfbkfaioihaa
