/- What cmp.Compare of texts and the reference's less answer, and which names may be. No conditions. -/
import Derived.Test.YtlicnadbccjbjaaLmem
import Derived.Test.YtlicnadbccjbjaaProg
import Derived.Laws.RangeAny
import Derived.Laws.Cover1
import Derived.BigQuiet
namespace Go.Proofs.Ytlicnadbccjbjaa
open Go.RowKit LB

theorem nan40 (s : ByteArray) (w : World) : Calls Try.prog 40 #[.string s] w fun e w' => e = .returned (.bool false) ∧ w' = w := by
  have h : (!(s.toList == s.toList)) = false := by simp
  go_enter Try.func40, Try.ntmps40
  go_wp2_with fail
  go_ret
  exact ⟨by simp, rfl⟩

set_option maxRecDepth 100000 in
theorem cmp26 (a b : ByteArray) (w : World) : Calls Try.prog 26 #[.string a, .string b] w fun e w' => e = .returned (.int .i64 (c3 a b)) ∧ w' = w := by
  have h0 := eq_beq a b
  rcases lt_tri a b with h | h | h
  · have hc : c3 a b = -1 := by simp [c3, h]
    have hl : Op.bytesLess a.toList b.toList = true := h
    rw [hc]
    go_enter Try.func26, Try.ntmps26
    go_wp2_with (go_at_call 40; refine (nan40 _ _).mono ?_; rintro e w' ⟨rfl, rfl⟩)
    go_ret
    exact ⟨rfl, rfl⟩
  · subst h
    have hc : c3 a a = 0 := c3_self a
    have hl : Op.bytesLess a.toList a.toList = false := lt_irrefl a
    have he : (a.toList == a.toList) = true := by simp
    rw [hc]
    go_enter Try.func26, Try.ntmps26
    go_wp2_with (go_at_call 40; refine (nan40 _ _).mono ?_; rintro e w' ⟨rfl, rfl⟩)
    go_ret
    exact ⟨rfl, rfl⟩
  · have hc : c3 a b = 1 := by simp [c3, h, lt_asymm h]
    have hl : Op.bytesLess a.toList b.toList = false := lt_asymm h
    have he : (a.toList == b.toList) = false := by rw [h0, decide_eq_false]; exact (ne_of_lt h).symm
    clear h0
    rw [hc]
    go_enter Try.func26, Try.ntmps26
    go_wp2_with (go_at_call 40; refine (nan40 _ _).mono ?_; rintro e w' ⟨rfl, rfl⟩)
    go_ret
    exact ⟨rfl, rfl⟩

set_option maxRecDepth 100000 in
theorem less29 (a b : ByteArray) (w : World) : Calls Try.prog 29 #[.string a, .string b] w fun e w' => e = .returned (.int .i64 (c3 a b)) ∧ w' = w := by
  have h0 := eq_beq a b
  rcases lt_tri a b with h | h | h
  · have hc : c3 a b = -1 := by simp [c3, h]
    have hl : Op.bytesLess a.toList b.toList = true := h
    rw [hc]
    go_enter Try.func29, Try.ntmps29
    go_wp2_with fail
    go_ret
    exact ⟨rfl, rfl⟩
  · subst h
    have hc : c3 a a = 0 := c3_self a
    have hl : Op.bytesLess a.toList a.toList = false := lt_irrefl a
    have he : (a.toList == a.toList) = true := by simp
    rw [hc]
    go_enter Try.func29, Try.ntmps29
    go_wp2_with fail
    go_ret
    exact ⟨rfl, rfl⟩
  · have hc : c3 a b = 1 := by simp [c3, h, lt_asymm h]
    have hl : Op.bytesLess a.toList b.toList = false := lt_asymm h
    have he : (a.toList == b.toList) = false := by rw [h0, decide_eq_false]; exact (ne_of_lt h).symm
    clear h0
    rw [hc]
    go_enter Try.func29, Try.ntmps29
    go_wp2_with fail
    go_ret
    exact ⟨rfl, rfl⟩

theorem num12 (x : Int) (w : World) : Calls Try.prog 12 #[.int .i64 x] w fun e w' => e = .returned (.int .i64 x) ∧ w' = w := by
  go_enter Try.func12, Try.ntmps12
  go_wp2_with fail
  go_ret
  exact ⟨rfl, rfl⟩
end Go.Proofs.Ytlicnadbccjbjaa
