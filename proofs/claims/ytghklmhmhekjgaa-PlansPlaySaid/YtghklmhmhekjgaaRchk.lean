/- Which plans the reference lets be: just those that the program does. Conditions: sizes within the form's reach. -/
import Derived.Test.YtghklmhmhekjgaaCheck
namespace Go.Proofs.Ytghklmhmhekjgaa
open Go.RowKit

theorem all_iff (s : ByteArray) : s.data.toList.all okB = true ↔ okTo s s.size := by
  unfold okTo
  rw [List.all_eq_true]
  constructor
  · intro h i _ hi
    exact h _ (by
      have : s[i] = s.data[i] := rfl
      rw [this]
      exact Array.getElem_mem_toList _)
  · intro h x hx
    obtain ⟨i, hi, rfl⟩ := List.mem_iff_getElem.1 hx
    have hi2 : i < s.size := by simpa using hi
    have h3 := h i hi2 hi2
    exact h3
theorem all_not {s : ByteArray} {k : Nat} (hk : k < s.size) (h : okB s[k] = false) : ¬ s.data.toList.all okB = true := fun hp => by
  have := (all_iff s).1 hp k hk hk; rw [h] at this; cases this

set_option maxRecDepth 100000 in
set_option maxHeartbeats 8000000 in
theorem rcheck9 (n : ByteArray) (f t r : Int) (w : World) (hs : n.size ≤ 1000000000000000) :
    Calls Try.prog 9 #[.agg #[.string n, .int .i64 f, .int .i64 t, .int .i64 r]] w (CPost w n f t r) := by
  go_enter Try.func9, Try.ntmps9
  go_wp2_with fail
  obtain ⟨w0, hw0⟩ : ∃ w0, w0 = w.alloc (.cells #[.string n, .int .i64 f, .int .i64 t, .int .i64 r] 27) := ⟨_, rfl⟩
  have hA : Arr w0 w.heap.size 27 #[.string n, .int .i64 f, .int .i64 t, .int .i64 r] := by rw [hw0]; exact Arr.new w 27 _
  have HB := Lib.hid (show Below w.heap.size w w0 by rw [hw0]; exact (Below.refl _ w).alloc (Nat.le_refl _) _)
  have hn0 : w0.cell? ⟨w.heap.size, 0, none⟩ = some (.string n) := hA.at_ rfl
  have hf0 : w0.cell? ⟨w.heap.size, 1, none⟩ = some (.int .i64 f) := hA.at_ rfl
  have ht0 : w0.cell? ⟨w.heap.size, 2, none⟩ = some (.int .i64 t) := hA.at_ rfl
  have hr0 : w0.cell? ⟨w.heap.size, 3, none⟩ = some (.int .i64 r) := hA.at_ rfl
  rw [← hw0]
  clear hw0 hA
  go_loopw [3, 4] (fun i _ wr => wr = w0 ∧ ∃ k : Nat, k ≤ n.size ∧ i = .int .i64 k ∧ okTo n k) (fun i _ _ => n.size - (intOf i).toNat)
  case atStart => exact ⟨rfl, 0, Nat.zero_le _, rfl, fun i hi => by omega⟩
  case round =>
    obtain ⟨rfl, k, hk, rfl, hok⟩ := hrel
    by_cases hlt : k < n.size
    · have hb := okB_okN n[k]
      rcases okN_class n[k].toNat with ⟨ho, hc⟩ | ⟨ho, hc⟩
      · rw [ho] at hb
        have HO := Lib.hid hb
        clear ho hb
        rcases hc with ⟨hc1, hc2⟩ | ⟨hc1, hc2⟩ | ⟨hc1, hc2⟩ | hc1
        all_goals
          go_wp2_with fail
          go_roundw
          case rel => exact ⟨by trivial, k + 1, by omega, by go_num, okTo_succ hok hlt HO.out⟩
          case measure => simp [intOf]; omega
      · rw [ho] at hb
        have HO := Lib.hid (show ¬ OkP n f t r from fun h => all_not hlt hb h.1)
        clear ho hb
        rcases hc with hc1 | ⟨hc1, hc2⟩ | ⟨hc1, hc2⟩ | ⟨hc1, hc2⟩ | hc1
        all_goals
          have h95 : (((n[k].toNat : Nat) : Int) == 95) = false := by rw [beq_eq_false_iff_ne]; omega
          try have d57 : decide (((n[k].toNat : Nat) : Int) ≤ 57) = false := decide_eq_false (by omega)
          try have d90 : decide (((n[k].toNat : Nat) : Int) ≤ 90) = false := decide_eq_false (by omega)
          try have d122 : decide (((n[k].toNat : Nat) : Int) ≤ 122) = false := decide_eq_false (by omega)
          go_wp2_with fail
          go_ret
          exact cpost_no HO.out HB.out
    · obtain rfl : k = n.size := by omega
      have hall := (all_iff n).2 hok
      clear hok hlt
      by_cases c0 : n.size = 0
      · have d0 := yes_empty c0
        have HN := Lib.hid (show ¬ OkP n f t r from fun h => by have := h.2.1; omega)
        clear hall c0
        go_wp2_with fail
        go_ret
        exact cpost_no HN.out HB.out
      · have d0 := not_empty c0
        by_cases c1 : 64 < n.size
        · have d1 : decide (64 < ((n.size : Nat) : Int)) = true := decide_eq_true (by omega)
          have HN := Lib.hid (show ¬ OkP n f t r from fun h => by have := h.2.2.1; omega)
          clear hall c0 c1
          go_wp2_with fail
          go_ret
          exact cpost_no HN.out HB.out
        · have d1 : decide (64 < ((n.size : Nat) : Int)) = false := decide_eq_false (by omega)
          by_cases c2 : f < -9007199254740992
          · have d2 : decide (f < -9007199254740992) = true := decide_eq_true (by omega)
            have HN := Lib.hid (show ¬ OkP n f t r from fun h => by have := h.2.2.2.1; omega)
            clear hall c0 c1 c2
            go_wp2_with fail
            go_ret
            exact cpost_no HN.out HB.out
          · have d2 : decide (f < -9007199254740992) = false := decide_eq_false (by omega)
            by_cases c3 : 9007199254740992 < f
            · have d3 : decide (9007199254740992 < f) = true := decide_eq_true (by omega)
              have HN := Lib.hid (show ¬ OkP n f t r from fun h => by have := h.2.2.2.2.1; omega)
              clear hall c0 c1 c2 c3
              go_wp2_with fail
              go_ret
              exact cpost_no HN.out HB.out
            · have d3 : decide (9007199254740992 < f) = false := decide_eq_false (by omega)
              by_cases c4 : t < -9007199254740992
              · have d4 : decide (t < -9007199254740992) = true := decide_eq_true (by omega)
                have HN := Lib.hid (show ¬ OkP n f t r from fun h => by have := h.2.2.2.2.2.1; omega)
                clear hall c0 c1 c2 c3 c4
                go_wp2_with fail
                go_ret
                exact cpost_no HN.out HB.out
              · have d4 : decide (t < -9007199254740992) = false := decide_eq_false (by omega)
                by_cases c5 : 9007199254740992 < t
                · have d5 : decide (9007199254740992 < t) = true := decide_eq_true (by omega)
                  have HN := Lib.hid (show ¬ OkP n f t r from fun h => by have := h.2.2.2.2.2.2.1; omega)
                  clear hall c0 c1 c2 c3 c4 c5
                  go_wp2_with fail
                  go_ret
                  exact cpost_no HN.out HB.out
                · have d5 : decide (9007199254740992 < t) = false := decide_eq_false (by omega)
                  by_cases c6 : t ≤ f
                  · have d6 : decide (t ≤ f) = true := decide_eq_true (by omega)
                    have HN := Lib.hid (show ¬ OkP n f t r from fun h => by have := h.2.2.2.2.2.2.2.1; omega)
                    clear hall c0 c1 c2 c3 c4 c5 c6
                    go_wp2_with fail
                    go_ret
                    exact cpost_no HN.out HB.out
                  · have d6 : decide (t ≤ f) = false := decide_eq_false (by omega)
                    by_cases c7 : r < 0
                    · have d7 : decide (r < 0) = true := decide_eq_true (by omega)
                      have HN := Lib.hid (show ¬ OkP n f t r from fun h => by have := h.2.2.2.2.2.2.2.2.1; omega)
                      clear hall c0 c1 c2 c3 c4 c5 c6 c7
                      go_wp2_with fail
                      go_ret
                      exact cpost_no HN.out HB.out
                    · have d7 : decide (r < 0) = false := decide_eq_false (by omega)
                      by_cases c8 : 1048576 < r
                      · have d8 : decide (1048576 < r) = true := decide_eq_true (by omega)
                        have HN := Lib.hid (show ¬ OkP n f t r from fun h => by have := h.2.2.2.2.2.2.2.2.2; omega)
                        clear hall c0 c1 c2 c3 c4 c5 c6 c7 c8
                        go_wp2_with fail
                        go_ret
                        exact cpost_no HN.out HB.out
                      · have d8 : decide (1048576 < r) = false := decide_eq_false (by omega)
                        have HN := Lib.hid (show OkP n f t r from ⟨hall, by omega, by omega, by omega, by omega, by omega, by omega, by omega, by omega, by omega⟩)
                        clear hall c0 c1 c2 c3 c4 c5 c6 c7 c8
                        go_wp2_with fail
                        go_ret
                        exact cpost_ok HN.out HB.out
end Go.Proofs.Ytghklmhmhekjgaa
