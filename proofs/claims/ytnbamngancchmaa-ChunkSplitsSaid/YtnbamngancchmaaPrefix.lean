/- What bytes.Equal and bytes.HasPrefix answer where they must be true; and the two-cell elements. Conditions: the bytes are the same. -/
import Derived.Test.YtnbamngancchmaaCols
import Derived.Test.YtnbamngancchmaaPart
namespace Go.Proofs.Ytnbamngancchmaa
open Go.RowKit PB PC

theorem Try.info43 : (Try.prog.info? 43).map (fun i => (i.zero, i.size, i.bytes)) = some (some (.agg #[.int .i64 0, .int .i64 0]), 2, 16) := by kernel_rfl
set_option maxRecDepth 100000 in
theorem beq_same (A1 A2 : Option Addr) (n1 c1 B1 n2 c2 B2 : Nat) (l : List Nat) (w : World) (h1 : Rd w B1 A1 n1 (l.map bv)) (h2 : Rd w B2 A2 n2 (l.map bv)) :
    Calls Try.prog 73 #[.slice A1 n1 c1, .slice A2 n2 c2] w fun e w' => e = .returned (.bool true) ∧ w' = w := by
  have cv1 := conv_rd (c := c1) h1
  have cv2 := conv_rd (c := c2) h2
  go_enter Try.func73, Try.ntmps73
  go_wp2_with fail
  go_ret
  exact ⟨rfl, rfl⟩
set_option maxRecDepth 100000 in
theorem prefix_same (A1 A2 : Option Addr) (n1 c1 B1 n2 c2 B2 : Nat) (l : List Nat) (w : World) (h1 : Rd w B1 A1 n1 (l.map bv)) (h2 : Rd w B2 A2 n2 ((l.take n2).map bv)) (hle : n2 ≤ n1) (hc : n1 ≤ c1) :
    Calls Try.prog 63 #[.slice A1 n1 c1, .slice A2 n2 c2] w fun e w' => e = .returned (.bool true) ∧ w' = w := by
  have hl := h1.blen
  have h1' : Rd w B1 A1 n2 ((l.take n2).map bv) := by
    rcases Nat.eq_zero_or_pos n2 with h | h
    · exact Rd.any0 _ h (by simp; omega)
    · obtain ⟨b, off, rfl, _, _⟩ := h1.2 (by omega)
      have := h1.sub (k := 0) (m := n2) (by omega)
      simpa using this
  have hq := fun c => beq_same A1 A2 n2 c B1 n2 c2 B2 (l.take n2) w h1' h2
  have HQ := Lib.hid hq
  have hpos : A1 = none → n2 = 0 := by
    intro h
    rcases Nat.eq_zero_or_pos n2 with h0 | h0
    · exact h0
    · obtain ⟨b, off, e, _⟩ := h1.2 (by omega)
      rw [h] at e; cases e
  clear hq h1 h2 h1' hl
  cases A1 with
  | none =>
    have := hpos rfl
    subst this
    go_enter Try.func63, Try.ntmps63
    go_wp2_with fail
    all_goals
      refine (HQ.out _).mono ?_
      rintro e w1 ⟨rfl, rfl⟩
      go_wp2_with fail
      go_ret
      exact ⟨rfl, rfl⟩
  | some ad =>
    clear hpos
    go_enter Try.func63, Try.ntmps63
    go_wp2_with fail
    all_goals
      refine (HQ.out _).mono ?_
      rintro e w1 ⟨rfl, rfl⟩
      go_wp2_with fail
      go_ret
      exact ⟨rfl, rfl⟩
theorem two_cells (w : World) (x y : Value) (t : TypeId) : ∀ j v, [x, y][j]? = some v → (w.alloc (.cells #[x, y] t)).cell? ((⟨w.heap.size, 0, none⟩ : Addr).add j) = some v := by
  intro j v hv
  have e : (⟨w.heap.size, 0, none⟩ : Addr).add j = ⟨w.heap.size, 0 + j, none⟩ := by unfold Addr.add; split <;> simp_all
  rw [e, Nat.zero_add]
  refine (Arr.new w t #[x, y]).at_ ?_
  rw [← hv]; simp
theorem sc_snoc (l : List (Int × Int)) (p : Int × Int) : sc (l ++ [p]) = sc l ++ [.int .i64 p.1, .int .i64 p.2] := by rw [sc_append]; rfl
end Go.Proofs.Ytnbamngancchmaa
