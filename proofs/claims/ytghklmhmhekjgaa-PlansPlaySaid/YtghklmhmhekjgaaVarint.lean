/- The plain law of varints: what is put is got, and what is got was put so. Conditions: numbers of 64 bits. -/
namespace Go.Proofs.Ytghklmhmhekjgaa
namespace PC

def vputF : Nat → Nat → List Nat
  | 0, u => [u % 128]
  | f + 1, u => if u < 128 then [u] else (u % 128 + 128) :: vputF f (u / 128)
/-- The bytes of a number. -/
def vput (u : Nat) : List Nat := vputF 10 u
theorem vputF_more : ∀ (f g u : Nat), u < 128 ^ (f + 1) → f ≤ g → vputF (f + 1) u = vputF (g + 1) u
  | 0, g, u, h, _ => by
    have hu : u < 128 := by simpa using h
    simp [vputF, hu]
  | f + 1, g, u, h, hg => by
    obtain ⟨g', rfl⟩ : ∃ g', g = g' + 1 := ⟨g - 1, by omega⟩
    rw [show vputF (f + 1 + 1) u = if u < 128 then [u] else (u % 128 + 128) :: vputF (f + 1) (u / 128) from rfl, show vputF (g' + 1 + 1) u = if u < 128 then [u] else (u % 128 + 128) :: vputF (g' + 1) (u / 128) from rfl]
    split
    · rfl
    · rw [vputF_more f g' (u / 128) (by rw [Nat.pow_succ] at h; exact Nat.div_lt_of_lt_mul (by rw [Nat.mul_comm]; exact h)) (by omega)]
theorem vput_small {u : Nat} (h : u < 128) : vput u = [u] := by simp [vput, vputF, h]
theorem vput_big {u : Nat} (h : ¬ u < 128) (hu : u < 18446744073709551616) : vput u = (u % 128 + 128) :: vput (u / 128) := by
  have e : vputF 10 u = (u % 128 + 128) :: vputF 9 (u / 128) := by rw [vputF, if_neg h]
  unfold vput
  rw [e, vputF_more 8 9 (u / 128) (by omega) (by omega)]
theorem vput_lt : ∀ (f u : Nat), ∀ x ∈ vputF f u, x < 256
  | 0, u, x, hx => by simp [vputF] at hx; omega
  | f + 1, u, x, hx => by
    rw [vputF] at hx
    split at hx
    · simp at hx; omega
    · rcases List.mem_cons.1 hx with rfl | h
      · omega
      · exact vput_lt f _ x h
theorem vput_byte (u : Nat) : ∀ x ∈ vput u, x < 256 := vput_lt 10 u
theorem vputF_len : ∀ (f u : Nat), 0 < (vputF f u).length ∧ (vputF f u).length ≤ f + 1
  | 0, u => by simp [vputF]
  | f + 1, u => by
    rw [vputF]
    split
    · simp
    · have := vputF_len f (u / 128); simp only [List.length_cons]; omega
theorem vput_len (u : Nat) : 0 < (vput u).length ∧ (vput u).length ≤ 11 := vputF_len 10 u

/-- The number at the head of bytes, from byte i on, acc being what has been read. -/
def vgetL : List Nat → Nat → Nat → Option (Nat × Nat)
  | [], _, _ => none
  | x :: r, i, acc =>
    if i = 9 ∧ 1 < x then none
    else if 128 ≤ x then vgetL r (i + 1) (acc + x % 128 * 128 ^ i)
    else if x = 0 ∧ 0 < i then none
    else some (acc + x % 128 * 128 ^ i, i + 1)
def vget (b : List Nat) : Option (Nat × Nat) := vgetL b 0 0

theorem vgetL_put : ∀ (f v i acc : Nat) (r : List Nat), v < 128 ^ (f + 1) → v * 128 ^ i < 18446744073709551616 → i ≤ 9 → (0 < i → 0 < v) → vgetL (vputF (f + 1) v ++ r) i acc = some (acc + v * 128 ^ i, i + (vputF (f + 1) v).length)
  | f, v, i, acc, r, hf, h64, hi, hz => by
    by_cases hv : v < 128
    · have e : vputF (f + 1) v = [v] := by rw [vputF, if_pos hv]
      rw [e]
      show vgetL (v :: r) i acc = _
      rw [vgetL, if_neg, if_neg (by omega), if_neg (by omega), Nat.mod_eq_of_lt hv]
      · rfl
      · rintro ⟨rfl, h1⟩
        have : 2 * 128 ^ 9 ≤ v * 128 ^ 9 := Nat.mul_le_mul_right _ h1
        omega
    · obtain ⟨g, rfl⟩ : ∃ g, f = g + 1 := by
        cases f with
        | zero => exfalso; simp at hf; omega
        | succ g => exact ⟨g, rfl⟩
      have e : vputF (g + 1 + 1) v = (v % 128 + 128) :: vputF (g + 1) (v / 128) := by rw [vputF, if_neg hv]
      have hi9 : i ≠ 9 := by
        rintro rfl
        have : 128 * 128 ^ 9 ≤ v * 128 ^ 9 := Nat.mul_le_mul_right _ (by omega)
        omega
      have hd : v / 128 * 128 ^ (i + 1) ≤ v * 128 ^ i := by
        rw [Nat.pow_succ, Nat.mul_comm (128 ^ i) 128, ← Nat.mul_assoc]
        exact Nat.mul_le_mul_right _ (by omega)
      rw [e]
      show vgetL ((v % 128 + 128) :: (vputF (g + 1) (v / 128) ++ r)) i acc = _
      rw [vgetL, if_neg (by omega), if_pos (by omega), vgetL_put g (v / 128) (i + 1) _ r (by rw [Nat.pow_succ] at hf; exact Nat.div_lt_of_lt_mul (by rw [Nat.mul_comm]; exact hf)) (by omega) (by omega) (fun _ => by omega)]
      simp only [List.length_cons, Option.some.injEq, Prod.mk.injEq]
      refine ⟨?_, by omega⟩
      have e1 : (v % 128 + 128) % 128 = v % 128 := by omega
      rw [e1, Nat.pow_succ, Nat.mul_comm (128 ^ i) 128, ← Nat.mul_assoc, Nat.add_assoc, ← Nat.add_mul]
      congr 2
      omega
theorem vget_put {u : Nat} (hu : u < 18446744073709551616) (r : List Nat) : vget (vput u ++ r) = some (u, (vput u).length) := by
  have := vgetL_put 9 u 0 0 r (by omega) (by omega) (by omega) (by omega)
  unfold vget vput
  rw [this]; simp
theorem vgetL_back : ∀ (b : List Nat) (i acc u k : Nat), (∀ x ∈ b, x < 256) → i ≤ 9 → vgetL b i acc = some (u, k) →
    ∃ v, u = acc + v * 128 ^ i ∧ v * 128 ^ i < 18446744073709551616 ∧ v < 128 ^ (10 - i) ∧ (0 < i → 0 < v) ∧ k = i + (vputF (10 - i) v).length ∧ (vputF (10 - i) v).length ≤ b.length ∧ b.take (vputF (10 - i) v).length = vputF (10 - i) v
  | [], i, acc, u, k, _, _, h => by cases h
  | x :: r, i, acc, u, k, hb, hi, h => by
    have hx := hb x (by simp)
    rw [vgetL] at h
    split at h
    · cases h
    rename_i h9
    obtain ⟨f, hf⟩ : ∃ f, 10 - i = f + 1 := ⟨9 - i, by omega⟩
    split at h
    · rename_i h128
      have hi9 : i ≠ 9 := by rintro rfl; exact h9 ⟨rfl, by omega⟩
      obtain ⟨v, h1, h2, h3, h4, h5, h6, h7⟩ := vgetL_back r (i + 1) _ u k (fun y hy => hb y (by simp [hy])) (by omega) h
      have hf2 : 10 - (i + 1) = f := by omega
      rw [hf2] at h3 h5 h6 h7
      have hv0 := h4 (by omega)
      have e : vputF (f + 1) (x % 128 + 128 * v) = x :: vputF f v := by
        rw [vputF, if_neg (by omega), show (x % 128 + 128 * v) % 128 + 128 = x by omega, show (x % 128 + 128 * v) / 128 = v by omega]
      have ep : v * 128 ^ (i + 1) = 128 * v * 128 ^ i := by rw [Nat.pow_succ, Nat.mul_comm (128 ^ i) 128, ← Nat.mul_assoc, Nat.mul_comm v 128]
      refine ⟨x % 128 + 128 * v, ?_, ?_, ?_, fun _ => by omega, ?_, ?_, ?_⟩
      · rw [h1, ep, Nat.add_mul, Nat.add_assoc]
      · rw [Nat.add_mul, ← ep]
        have hle : x % 128 * 128 ^ i < 128 ^ (i + 1) := by
          rw [Nat.pow_succ, Nat.mul_comm]; exact Nat.mul_lt_mul_of_pos_left (by omega) (Nat.pow_pos (by omega))
        have hdvd : 128 ^ (i + 1) ∣ 18446744073709551616 := by
          refine Nat.dvd_trans (Nat.pow_dvd_pow 128 (show i + 1 ≤ 9 by omega)) ⟨2, rfl⟩
        obtain ⟨q, hq⟩ := hdvd
        rw [hq] at h2 ⊢
        have h2' : v < q := by
          rw [Nat.mul_comm v] at h2
          exact Nat.lt_of_mul_lt_mul_left h2
        have : (v + 1) * 128 ^ (i + 1) ≤ q * 128 ^ (i + 1) := Nat.mul_le_mul_right _ h2'
        rw [Nat.add_mul, Nat.one_mul] at this
        rw [Nat.mul_comm (128 ^ (i + 1)) q]
        omega
      · rw [hf, Nat.pow_succ]; omega
      · rw [hf, e, h5]; simp only [List.length_cons]; omega
      · rw [hf, e]; simp only [List.length_cons]; omega
      · rw [hf, e]; simp only [List.length_cons, List.take_succ_cons, h7]
    · rename_i h128
      split at h
      · cases h
      rename_i h0
      injection h with h
      injection h with hu hk
      have e : vputF (f + 1) x = [x] := by rw [vputF, if_pos (by omega)]
      refine ⟨x, ?_, ?_, ?_, fun h => by omega, ?_, ?_, ?_⟩
      · rw [← hu, Nat.mod_eq_of_lt (by omega)]
      · have : i ≤ 8 ∨ i = 9 := by omega
        rcases this with h8 | rfl
        · have h1 : 128 ^ i ≤ 128 ^ 8 := Nat.pow_le_pow_right (by omega) h8
          have h2 : x * 128 ^ i ≤ 127 * 128 ^ 8 := Nat.mul_le_mul (by omega) h1
          omega
        · have h2 : x * 128 ^ 9 ≤ 1 * 128 ^ 9 := Nat.mul_le_mul_right _ (by omega)
          omega
      · rw [hf, Nat.pow_succ]
        have := Nat.pow_pos (n := f) (show 0 < 128 by omega)
        have : 1 * 128 ≤ 128 ^ f * 128 := Nat.mul_le_mul_right _ this
        omega
      · rw [hf, e, ← hk]; rfl
      · rw [hf, e]; simp
      · rw [hf, e]; simp
theorem vget_back {b : List Nat} {u k : Nat} (hb : ∀ x ∈ b, x < 256) (h : vget b = some (u, k)) : u < 18446744073709551616 ∧ k = (vput u).length ∧ k ≤ b.length ∧ b.take k = vput u := by
  obtain ⟨v, h1, h2, _, _, h5, h6, h7⟩ := vgetL_back b 0 0 u k hb (by omega) h
  simp only [Nat.pow_zero, Nat.mul_one, Nat.zero_add, Nat.sub_zero] at h1 h2 h5 h6 h7
  subst h1
  have e : vput u = vputF 10 u := rfl
  rw [← e] at h5 h6 h7
  exact ⟨h2, h5, by omega, by rw [h5]; exact h7⟩
end PC
end Go.Proofs.Ytghklmhmhekjgaa
