/- What stamps.Check answers. Condition: the list has at most 10^9 numbers. -/
import Derived.Test.YtnbamngancchmaaPut
namespace Go.Proofs.Ytnbamngancchmaa
open Go.RowKit PB PS

/-- A slice value that reads as numbers. -/
def ints (l : List Int) : List Value := l.map (Value.int .i64)
theorem Rd.int {w : World} {B : Nat} {A : Option Addr} {n : Nat} {l : List Int} (h : Rd w B A n (ints l)) {k : Nat} (hk : k < n) : ∃ b off, A = some ⟨b, off, none⟩ ∧ b < B ∧ ∀ j, j < n → w.cell? ⟨b, off + j, none⟩ = some (.int .i64 (l.getD j 0)) := by
  obtain ⟨b, off, e, hb, hc⟩ := h.2 (by omega)
  refine ⟨b, off, e, hb, fun j hj => hc j _ ?_⟩
  have hl : j < l.length := by have := h.1; simp [ints] at this; omega
  simp [ints, List.getD, hl]
theorem Rd.len {w : World} {B : Nat} {A : Option Addr} {n : Nat} {l : List Int} (h : Rd w B A n (ints l)) : l.length = n := by have := h.1; simpa [ints] using this

theorem goodAt_mk {l : List Int} {i : Nat} (h : -9007199254740992 ≤ l.getD i 0 ∧ l.getD i 0 ≤ 9007199254740992) (h2 : 0 < i → l.getD (i - 1) 0 < l.getD i 0) : goodAt l i = true := by
  unfold goodAt
  simp only [Bool.and_eq_true, Bool.or_eq_true, decide_eq_true_eq]
  refine ⟨h, ?_⟩
  rcases Nat.eq_zero_or_pos i with h0 | h0
  · exact Or.inl h0
  · exact Or.inr (h2 h0)

set_option maxRecDepth 100000 in
set_option maxHeartbeats 1000000 in
theorem check_any (A : Option Addr) (n c B : Nat) (l : List Int) (w : World) (hr : Rd w B A n (ints l)) (hn : n ≤ 1000000000) :
    Calls Try.prog 36 #[.slice A n c] w fun e w' => e = .returned (.int .i64 (packE l)) ∧ w' = w := by
  have hl := hr.len
  by_cases h120 : 120 < n
  · have HE : Hid (packE l = 2) := by show _ = _; unfold packE; rw [if_pos (by omega)]
    clear hl
    go_enter Try.func36, Try.ntmps36
    go_wp2_with fail
    go_ret
    exact ⟨by rw [HE.out]; rfl, rfl⟩
  · have HL := Lib.hid hl
    clear hl
    go_enter Try.func36, Try.ntmps36
    go_wp2_with fail
    go_loop [10] (fun i => ∃ k : Nat, k ≤ n ∧ i = .int .i64 k ∧ Hid (good l k = true)) (fun i => n - (intOf i).toNat)
    case atStart => exact ⟨0, Nat.zero_le _, rfl, rfl⟩
    case round =>
      obtain ⟨k, hk, rfl, HG⟩ := hrel
      by_cases hlt : k < n
      · obtain ⟨b, off, rfl, hb, hc⟩ := hr.int hlt
        have hck := hc k hlt
        have hcp := hc (k - 1) (by omega)
        obtain ⟨x, hx⟩ : ∃ x, x = l.getD k 0 := ⟨_, rfl⟩
        obtain ⟨y, hy⟩ : ∃ y, y = l.getD (k - 1) 0 := ⟨_, rfl⟩
        rw [← hx] at hck
        rw [← hy] at hcp
        have HX := Lib.hid hx
        have HY := Lib.hid hy
        clear hx hy hc hr
        by_cases hgood : -9007199254740992 ≤ x ∧ x ≤ 9007199254740992 ∧ (0 < k → y < x)
        · obtain ⟨g1, g2, g3⟩ := hgood
          have HG2 : Hid (good l (k + 1) = true) := by
            show _ = _
            rw [good_succ, HG.out, Bool.true_and]
            exact goodAt_mk (by rw [← HX.out]; exact ⟨g1, g2⟩) (by rw [← HX.out, ← HY.out]; exact g3)
          rcases Nat.eq_zero_or_pos k with h0 | h0
          · subst h0
            clear g3
            rw [Nat.add_zero] at hck
            go_wp2_with fail
            go_round
            case rel => exact ⟨1, by omega, by go_num, HG2⟩
            case measure => simp [intOf]; omega
          · have g4 := g3 h0
            clear g3
            go_wp2_with fail
            go_round
            case rel => exact ⟨k + 1, by omega, by go_num, HG2⟩
            case measure => simp [intOf]; omega
        · have HE : Hid (packE l = 21) := by
            show _ = _
            have hb : ¬ good l l.length = true := fun h => by
              have := goodAt_b (good_at h (i := k) (by rw [HL.out]; omega))
              rw [← HX.out, ← HY.out] at this
              exact hgood this
            unfold packE
            rw [if_neg (by rw [HL.out]; omega), if_neg hb]
          have hcase : x < -9007199254740992 ∨ (-9007199254740992 ≤ x ∧ 9007199254740992 < x) ∨ (-9007199254740992 ≤ x ∧ x ≤ 9007199254740992 ∧ 0 < k ∧ x ≤ y) := by
            by_cases h1 : x < -9007199254740992
            · exact Or.inl h1
            · by_cases h2 : 9007199254740992 < x
              · exact Or.inr (Or.inl ⟨by omega, h2⟩)
              · by_cases h3 : 0 < k ∧ x ≤ y
                · exact Or.inr (Or.inr ⟨by omega, by omega, h3.1, h3.2⟩)
                · exact absurd ⟨by omega, by omega, fun h => by omega⟩ hgood
          clear hgood
          rcases hcase with h1 | ⟨h1, h2⟩ | ⟨h1, h2, h3, h4⟩
          all_goals
            go_wp2_with fail
            all_goals
              go_ret
              exact ⟨by rw [HE.out]; rfl, rfl⟩
      · have HF : Hid (packE l = 0) := by
          show _ = _
          obtain rfl : k = n := by omega
          exact packE_zero.2 ⟨by rw [HL.out]; omega, by rw [HL.out]; exact HG.out⟩
        go_wp2_with fail
        go_ret
        exact ⟨by rw [HF.out]; rfl, rfl⟩
end Go.Proofs.Ytnbamngancchmaa
