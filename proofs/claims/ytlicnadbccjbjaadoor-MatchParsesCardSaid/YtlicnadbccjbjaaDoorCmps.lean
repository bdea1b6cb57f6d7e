/- What cmp.Compare of texts and the reference's less answer, and which names may be. No conditions. -/
import Derived.Test.YtlicnadbccjbjaaDoorLmem
import Derived.Test.YtlicnadbccjbjaaDoorProg
import Derived.Laws.RangeAny
import Derived.Laws.Cover1
import Derived.BigQuiet
namespace Go.Proofs.YtlicnadbccjbjaaDoor
open Go.RowKit LB

theorem nan40 (s : ByteArray) (w : World) : Calls Tryd.prog 55 #[.string s] w fun e w' => e = .returned (.bool false) ∧ w' = w := by
  have h : (!(s.toList == s.toList)) = false := by simp
  go_enter Tryd.func55, Tryd.ntmps55
  go_wp2_with fail
  go_ret
  exact ⟨by simp, rfl⟩

set_option maxRecDepth 100000 in
theorem cmp26 (a b : ByteArray) (w : World) : Calls Tryd.prog 43 #[.string a, .string b] w fun e w' => e = .returned (.int .i64 (c3 a b)) ∧ w' = w := by
  have h0 := eq_beq a b
  rcases lt_tri a b with h | h | h
  · have hc : c3 a b = -1 := by simp [c3, h]
    have hl : Op.bytesLess a.toList b.toList = true := h
    rw [hc]
    go_enter Tryd.func43, Tryd.ntmps43
    go_wp2_with (go_at_call 55; refine (nan40 _ _).mono ?_; rintro e w' ⟨rfl, rfl⟩)
    go_ret
    exact ⟨rfl, rfl⟩
  · subst h
    have hc : c3 a a = 0 := c3_self a
    have hl : Op.bytesLess a.toList a.toList = false := lt_irrefl a
    have he : (a.toList == a.toList) = true := by simp
    rw [hc]
    go_enter Tryd.func43, Tryd.ntmps43
    go_wp2_with (go_at_call 55; refine (nan40 _ _).mono ?_; rintro e w' ⟨rfl, rfl⟩)
    go_ret
    exact ⟨rfl, rfl⟩
  · have hc : c3 a b = 1 := by simp [c3, h, lt_asymm h]
    have hl : Op.bytesLess a.toList b.toList = false := lt_asymm h
    have he : (a.toList == b.toList) = false := by rw [h0, decide_eq_false]; exact (ne_of_lt h).symm
    clear h0
    rw [hc]
    go_enter Tryd.func43, Tryd.ntmps43
    go_wp2_with (go_at_call 55; refine (nan40 _ _).mono ?_; rintro e w' ⟨rfl, rfl⟩)
    go_ret
    exact ⟨rfl, rfl⟩

theorem num12 (x : Int) (w : World) : Calls Tryd.prog 14 #[.int .i64 x] w fun e w' => e = .returned (.int .i64 x) ∧ w' = w := by
  go_enter Tryd.func14, Tryd.ntmps14
  go_wp2_with fail
  go_ret
  exact ⟨rfl, rfl⟩
end Go.Proofs.YtlicnadbccjbjaaDoor
