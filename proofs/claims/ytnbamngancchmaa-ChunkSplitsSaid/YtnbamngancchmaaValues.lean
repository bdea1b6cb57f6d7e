/- The plain law of values: what is packed is read again. No program in sight. -/
import Derived.Test.YtnbamngancchmaaStamps
namespace Go.Proofs.Ytnbamngancchmaa
open Go.RowKit PB
namespace PV
/-- How many zeros there are at the top, 31 at most; at the bottom. -/
def hzF (x : Nat) : Nat → Nat → Nat | 0, h => h | f + 1, h => if x / 2 ^ (63 - h) % 2 = 0 then hzF x f (h + 1) else h
def lzF (x : Nat) : Nat → Nat → Nat | 0, t => t | f + 1, t => if x / 2 ^ t % 2 = 0 then lzF x f (t + 1) else t
def hz (x : Nat) : Nat := hzF x 31 0
def lz (x : Nat) : Nat := lzF x 64 0
theorem hzF_b (x : Nat) : ∀ f h, h ≤ hzF x f h ∧ hzF x f h ≤ h + f
  | 0, h => by simp [hzF]
  | f + 1, h => by
    unfold hzF
    split
    · have := hzF_b x f (h + 1); omega
    · omega
theorem hzF_lt (x : Nat) : ∀ f h, h + f ≤ 63 → x < 2 ^ (64 - h) → x < 2 ^ (64 - hzF x f h)
  | 0, h, _, hx => by simpa [hzF] using hx
  | f + 1, h, hf, hx => by
    unfold hzF
    split
    · rename_i h0
      refine hzF_lt x f (h + 1) (by omega) ?_
      rw [show 64 - (h + 1) = 63 - h by omega]
      rw [show 64 - h = (63 - h) + 1 by omega, Nat.pow_succ] at hx
      have h2 : x / 2 ^ (63 - h) < 2 := Nat.div_lt_of_lt_mul hx
      have h3 : x / 2 ^ (63 - h) = 0 := by
        generalize x / 2 ^ (63 - h) = q at h0 h2
        omega
      exact (Nat.div_eq_zero_iff_lt (Nat.two_pow_pos _)).1 h3
    · exact hx
theorem lzF_dvd (x : Nat) : ∀ f t, 2 ^ t ∣ x → 2 ^ lzF x f t ∣ x
  | 0, t, h => by simpa [lzF] using h
  | f + 1, t, h => by
    unfold lzF
    split
    · rename_i h0
      refine lzF_dvd x f (t + 1) ?_
      obtain ⟨k, rfl⟩ := h
      rw [Nat.mul_div_cancel_left _ (Nat.two_pow_pos _)] at h0
      obtain ⟨j, rfl⟩ : ∃ j, k = 2 * j := ⟨k / 2, by omega⟩
      exact ⟨j, by rw [Nat.pow_succ, Nat.mul_assoc]⟩
    · exact h
theorem hz_le (x : Nat) : hz x ≤ 31 := by have := hzF_b x 31 0; unfold hz; omega
theorem hz_lt {x : Nat} (hx : x < 18446744073709551616) : x < 2 ^ (64 - hz x) := hzF_lt x 31 0 (by omega) hx
theorem lz_dvd (x : Nat) : 2 ^ lz x ∣ x := lzF_dvd x 64 0 (by simp)
theorem hz_lz {x : Nat} (h0 : x ≠ 0) (hx : x < 18446744073709551616) : hz x + lz x ≤ 63 := by
  have h1 := hz_lt hx
  have h2 := Nat.le_of_dvd (by omega) (lz_dvd x)
  have h3 : lz x < 64 - hz x := (Nat.pow_lt_pow_iff_right (by omega)).1 (Nat.lt_of_le_of_lt h2 h1)
  omega
/-- A window holds x. -/
def Fits (w : Nat × Nat) (x : Nat) : Prop := w.1 + w.2 ≤ 63 ∧ w.1 ≤ 31 ∧ 2 ^ w.2 ∣ x ∧ x < 2 ^ (64 - w.1)
theorem fits_own {x : Nat} (h0 : x ≠ 0) (hx : x < 18446744073709551616) : Fits (hz x, lz x) x := ⟨hz_lz h0 hx, hz_le x, lz_dvd x, hz_lt hx⟩
theorem fits_old {x : Nat} {w : Nat × Nat} (hw : w.1 + w.2 ≤ 63 ∧ w.1 ≤ 31) (hx : x < 18446744073709551616) (h1 : w.1 ≤ hz x) (h2 : w.2 ≤ lz x) : Fits w x :=
  ⟨hw.1, hw.2, Nat.dvd_trans (Nat.pow_dvd_pow 2 h2) (lz_dvd x), Nat.lt_of_lt_of_le (hz_lt hx) (Nat.pow_le_pow_right (by omega) (by omega))⟩
theorem fits_val {x : Nat} {w : Nat × Nat} (h : Fits w x) : x / 2 ^ w.2 < 2 ^ (64 - w.1 - w.2) ∧ x / 2 ^ w.2 * 2 ^ w.2 = x := by
  refine ⟨?_, Nat.div_mul_cancel h.2.2.1⟩
  refine Nat.div_lt_of_lt_mul ?_
  rw [← Nat.pow_add]
  have := h.1
  rw [show w.2 + (64 - w.1 - w.2) = 64 - w.1 by omega]
  exact h.2.2.2
/-- A number's bits, from below, as its value is written. -/
theorem put_val {v n : Nat} (hn : n ≤ 64) (hv : v < 2 ^ n) (A C : List Bool) : getAt (A ++ (putBits (wrap64 (v : Int)) n ++ C)) A.length n = some v := by
  rw [getAt_put]
  refine congrArg some ?_
  have h1 : wrap64 (v : Int) % 2 ^ n = (v : Int) % 2 ^ n := by
    have hd : ((2 : Int) ^ n) ∣ 18446744073709551616 := by
      have : (18446744073709551616 : Int) = 2 ^ n * 2 ^ (64 - n) := by rw [← Int.pow_add, show n + (64 - n) = 64 by omega]; rfl
      exact ⟨_, this⟩
    obtain ⟨k, hk⟩ : ∃ k : Int, wrap64 (v : Int) = v + 18446744073709551616 * k := by
      refine ⟨(wrap64 (v : Int) - v) / 18446744073709551616, ?_⟩
      unfold wrap64; omega
    obtain ⟨c, hc⟩ := hd
    rw [hk, hc, Int.mul_assoc, Int.add_mul_emod_self_left]
  rw [h1]
  have h2 : (v : Int) % 2 ^ n = ((v % 2 ^ n : Nat) : Int) := by rw [Int.natCast_emod, Int.natCast_pow]; rfl
  rw [h2, Int.toNat_natCast, Nat.mod_eq_of_lt hv]

/-- The bits of one difference x, and the window after it. -/
def reuse (win : Option (Nat × Nat)) (x : Nat) : Option (Nat × Nat) := win.bind fun w => if w.1 ≤ hz x ∧ w.2 ≤ lz x then some w else none
def encX (win : Option (Nat × Nat)) (x : Nat) : List Bool × Option (Nat × Nat) :=
  if x = 0 then ([false], win) else
  match reuse win x with
  | some w => ([true, false] ++ putBits (wrap64 ((x / 2 ^ w.2 : Nat) : Int)) (64 - w.1 - w.2), win)
  | none => ([true, true] ++ putBits (hz x : Int) 5 ++ putBits ((64 - hz x - lz x - 1 : Nat) : Int) 6 ++ putBits (wrap64 ((x / 2 ^ lz x : Nat) : Int)) (64 - hz x - lz x), some (hz x, lz x))
/-- A difference read: none: the bytes are no values. -/
def getX (B : List Bool) (pos : Nat) (win : Option (Nat × Nat)) : Option (Nat × Nat × Option (Nat × Nat)) :=
  (getAt B pos 1).bind fun a => if a = 0 then some (0, pos + 1, win) else
  (getAt B (pos + 1) 1).bind fun c => if c = 0 then
      win.bind fun w => (getAt B (pos + 2) (64 - w.1 - w.2)).map fun v => (v * 2 ^ w.2 % 18446744073709551616, pos + 2 + (64 - w.1 - w.2), win)
    else (getAt B (pos + 2) 5).bind fun z => (getAt B (pos + 7) 6).bind fun m => if 63 < z + m then none else
      (getAt B (pos + 13) (m + 1)).map fun v => (v * 2 ^ (63 - z - m) % 18446744073709551616, pos + 13 + (m + 1), some (z, 63 - z - m))
def OkW (win : Option (Nat × Nat)) : Prop := ∀ w, win = some w → w.1 + w.2 ≤ 63 ∧ w.1 ≤ 31
theorem reuse_some {win : Option (Nat × Nat)} {x : Nat} {w : Nat × Nat} (h : reuse win x = some w) : win = some w ∧ w.1 ≤ hz x ∧ w.2 ≤ lz x := by
  unfold reuse at h
  cases win with
  | none => simp at h
  | some v =>
    simp only [Option.bind_some] at h
    split at h
    · rename_i h2
      injection h with h
      subst h
      exact ⟨rfl, h2⟩
    · cases h
theorem encX_ok {win : Option (Nat × Nat)} {x : Nat} (hw : OkW win) (hx : x < 18446744073709551616) : OkW (encX win x).2 := by
  unfold encX
  split
  · exact hw
  · rename_i h0
    cases hr : reuse win x with
    | some w => exact hw
    | none =>
      intro w e
      injection e with e
      subst e
      exact ⟨hz_lz h0 hx, hz_le x⟩
theorem encX_le (win : Option (Nat × Nat)) (x : Nat) : (encX win x).1.length ≤ 77 := by
  unfold encX
  split
  · simp
  · cases reuse win x <;> simp [putBits_length] <;> omega
theorem getX_enc {win dw : Option (Nat × Nat)} {x : Nat} (hw : OkW win) (hx : x < 18446744073709551616) (hd : dw = win ∨ win = none) (A C : List Bool) :
    ∃ dw', getX (A ++ ((encX win x).1 ++ C)) A.length dw = some (x, A.length + (encX win x).1.length, dw') ∧ (dw' = (encX win x).2 ∨ (encX win x).2 = none) := by
  by_cases h0 : x = 0
  · subst h0
    refine ⟨dw, ?_, ?_⟩
    · have e : encX win 0 = ([false], win) := by unfold encX; rw [if_pos rfl]
      rw [e]
      have e1 := getAt_mid A [false] C
      rw [show natOf [false] = 0 by rfl, show [false].length = 1 by rfl] at e1
      unfold getX
      rw [e1]; rfl
    · have e : encX win 0 = ([false], win) := by unfold encX; rw [if_pos rfl]
      rw [e]; exact hd
  · cases hr : reuse win x with
    | some w =>
      obtain ⟨rfl, r1, r2⟩ := reuse_some hr
      have hdw : dw = some w := by rcases hd with h | h; exact h; cases h
      subst hdw
      have hf := fits_old (hw w rfl) hx r1 r2
      obtain ⟨v1, v2⟩ := fits_val hf
      have e : encX (some w) x = ([true, false] ++ putBits (wrap64 ((x / 2 ^ w.2 : Nat) : Int)) (64 - w.1 - w.2), some w) := by unfold encX; rw [if_neg h0, hr]
      rw [e]
      have a1 := getAt_mid A [true] ([false] ++ (putBits (wrap64 ((x / 2 ^ w.2 : Nat) : Int)) (64 - w.1 - w.2) ++ C))
      have a2 := getAt_mid (A ++ [true]) [false] (putBits (wrap64 ((x / 2 ^ w.2 : Nat) : Int)) (64 - w.1 - w.2) ++ C)
      have a3 := put_val (n := 64 - w.1 - w.2) (by omega) v1 (A ++ [true, false]) C
      rw [show natOf [true] = 1 by rfl, show [true].length = 1 by rfl] at a1
      rw [show natOf [false] = 0 by rfl, show [false].length = 1 by rfl, show (A ++ [true]).length = A.length + 1 by simp] at a2
      rw [show (A ++ [true, false]).length = A.length + 2 by simp] at a3
      have b1 : A ++ ([true, false] ++ putBits (wrap64 ((x / 2 ^ w.2 : Nat) : Int)) (64 - w.1 - w.2) ++ C) = A ++ ([true] ++ ([false] ++ (putBits (wrap64 ((x / 2 ^ w.2 : Nat) : Int)) (64 - w.1 - w.2) ++ C))) := by simp
      have b2 : A ++ ([true] ++ ([false] ++ (putBits (wrap64 ((x / 2 ^ w.2 : Nat) : Int)) (64 - w.1 - w.2) ++ C))) = A ++ [true] ++ ([false] ++ (putBits (wrap64 ((x / 2 ^ w.2 : Nat) : Int)) (64 - w.1 - w.2) ++ C)) := by simp
      have b3 : A ++ ([true] ++ ([false] ++ (putBits (wrap64 ((x / 2 ^ w.2 : Nat) : Int)) (64 - w.1 - w.2) ++ C))) = A ++ [true, false] ++ (putBits (wrap64 ((x / 2 ^ w.2 : Nat) : Int)) (64 - w.1 - w.2) ++ C) := by simp
      refine ⟨some w, ?_, Or.inl rfl⟩
      show getX (A ++ ([true, false] ++ putBits _ _ ++ C)) A.length (some w) = some (x, A.length + ([true, false] ++ putBits _ _).length, some w)
      rw [b1]
      rw [← b2] at a2
      rw [← b3] at a3
      unfold getX
      simp only [a1, a2, a3, Option.bind_some, Option.map_some, if_neg (show ¬ (1 : Nat) = 0 by omega), if_true, v2, Nat.mod_eq_of_lt hx, List.length_append, putBits_length, List.length_cons, List.length_nil]
      congr 3; omega
    | none =>
      have hf := fits_own h0 hx
      obtain ⟨v1, v2⟩ := fits_val hf
      have hz31 := hz_le x
      have hzl := hz_lz h0 hx
      simp only at v1 v2
      obtain ⟨z, hzz⟩ : ∃ z, z = hz x := ⟨_, rfl⟩
      obtain ⟨t, htt⟩ : ∃ t, t = lz x := ⟨_, rfl⟩
      have e : encX win x = ([true, true] ++ putBits (z : Int) 5 ++ putBits ((64 - z - t - 1 : Nat) : Int) 6 ++ putBits (wrap64 ((x / 2 ^ t : Nat) : Int)) (64 - z - t), some (z, t)) := by unfold encX; rw [if_neg h0, hr, hzz, htt]
      rw [← hzz, ← htt] at v1
      rw [← htt] at v2
      rw [← hzz] at hz31 hzl
      rw [← htt] at hzl
      rw [e]
      generalize hV : wrap64 ((x / 2 ^ t : Nat) : Int) = V
      generalize hm : 64 - z - t - 1 = m
      have hmn : 64 - z - t = m + 1 := by omega
      have a1 := getAt_mid A [true] ([true] ++ (putBits (z : Int) 5 ++ (putBits (m : Int) 6 ++ (putBits V (64 - z - t) ++ C))))
      have a2 := getAt_mid (A ++ [true]) [true] (putBits (z : Int) 5 ++ (putBits (m : Int) 6 ++ (putBits V (64 - z - t) ++ C)))
      have a3 := getAt_put (A ++ [true, true]) (putBits (m : Int) 6 ++ (putBits V (64 - z - t) ++ C)) (z : Int) 5
      have a4 := getAt_put (A ++ [true, true] ++ putBits (z : Int) 5) (putBits V (64 - z - t) ++ C) (m : Int) 6
      have a5 := put_val (n := 64 - z - t) (by omega) v1 (A ++ [true, true] ++ putBits (z : Int) 5 ++ putBits (m : Int) 6) C
      rw [hV] at a5
      rw [show natOf [true] = 1 by rfl, show [true].length = 1 by rfl] at a1
      rw [show natOf [true] = 1 by rfl, show [true].length = 1 by rfl, show (A ++ [true]).length = A.length + 1 by simp] at a2
      have z5 : ((z : Int) % 2 ^ 5).toNat = z := by omega
      have m6 : ((m : Int) % 2 ^ 6).toNat = m := by omega
      rw [show (A ++ [true, true]).length = A.length + 2 by simp, z5] at a3
      rw [show (A ++ [true, true] ++ putBits (z : Int) 5).length = A.length + 7 by simp [putBits_length], m6] at a4
      rw [show (A ++ [true, true] ++ putBits (z : Int) 5 ++ putBits (m : Int) 6).length = A.length + 13 by simp [putBits_length]] at a5
      obtain ⟨B, hB⟩ : ∃ B, B = A ++ ([true] ++ ([true] ++ (putBits (z : Int) 5 ++ (putBits (m : Int) 6 ++ (putBits V (64 - z - t) ++ C))))) := ⟨_, rfl⟩
      have b1 : A ++ (([true, true] ++ putBits (z : Int) 5 ++ putBits (m : Int) 6 ++ putBits V (64 - z - t)) ++ C) = B := by rw [hB]; simp
      rw [← hB] at a1
      rw [show A ++ [true] ++ ([true] ++ (putBits (z : Int) 5 ++ (putBits (m : Int) 6 ++ (putBits V (64 - z - t) ++ C)))) = B by rw [hB]; simp] at a2
      rw [show A ++ [true, true] ++ (putBits (z : Int) 5 ++ (putBits (m : Int) 6 ++ (putBits V (64 - z - t) ++ C))) = B by rw [hB]; simp] at a3
      rw [show A ++ [true, true] ++ putBits (z : Int) 5 ++ (putBits (m : Int) 6 ++ (putBits V (64 - z - t) ++ C)) = B by rw [hB]; simp] at a4
      rw [show A ++ [true, true] ++ putBits (z : Int) 5 ++ putBits (m : Int) 6 ++ (putBits V (64 - z - t) ++ C) = B by rw [hB]; simp] at a5
      refine ⟨some (z, t), ?_, Or.inl rfl⟩
      show getX (A ++ (([true, true] ++ putBits (z : Int) 5 ++ putBits (m : Int) 6 ++ putBits V (64 - z - t)) ++ C)) A.length dw = some (x, A.length + ([true, true] ++ putBits (z : Int) 5 ++ putBits (m : Int) 6 ++ putBits V (64 - z - t)).length, some (z, t))
      rw [b1]
      rw [hmn] at a5
      have ht : 63 - z - m = t := by omega
      unfold getX
      simp only [a1, a2, a3, a4, a5, Option.bind_some, Option.map_some, if_neg (show ¬ (1 : Nat) = 0 by omega), if_neg (show ¬ 63 < z + m by omega), ht, v2, Nat.mod_eq_of_lt hx, List.length_append, putBits_length, List.length_cons, List.length_nil, hmn]
      refine congrArg some (congrArg (Prod.mk x) (congrArg (fun p => (p, some (z, t))) ?_))
      omega

/-- Numbers as 64 bits, and back. -/
def un (v : Int) : Nat := (v % 18446744073709551616).toNat
theorem un_lt (v : Int) : un v < 18446744073709551616 := by unfold un; omega
theorem sg_un {v : Int} (h : -9223372036854775808 ≤ v ∧ v ≤ 9223372036854775807) : wrap64 (un v : Int) = v := by unfold un wrap64; omega
def xat (l : List Int) (i : Nat) : Nat := un (l.getD i 0) ^^^ un (l.getD (i - 1) 0)
theorem xat_lt (l : List Int) (i : Nat) : xat l i < 18446744073709551616 := Nat.xor_lt_two_pow (n := 64) (un_lt _) (un_lt _)
/-- The bits of the first k numbers, and the window. -/
def encV (l : List Int) : Nat → List Bool × Option (Nat × Nat)
  | 0 => ([], none)
  | k + 1 => if k = 0 then (putBits (l.getD 0 0) 64, none) else ((encV l k).1 ++ (encX (encV l k).2 (xat l k)).1, (encX (encV l k).2 (xat l k)).2)
theorem encV_one (l : List Int) : encV l 1 = (putBits (l.getD 0 0) 64, none) := rfl
theorem encV_succ (l : List Int) {k : Nat} (hk : 0 < k) : encV l (k + 1) = ((encV l k).1 ++ (encX (encV l k).2 (xat l k)).1, (encX (encV l k).2 (xat l k)).2) := by
  rw [encV, if_neg (by omega)]
theorem encV_ok (l : List Int) : ∀ k, OkW (encV l k).2
  | 0 => by intro w h; cases h
  | k + 1 => by
    rcases Nat.eq_zero_or_pos k with h | h
    · subst h; intro w h; cases h
    · rw [encV_succ l h]; exact encX_ok (encV_ok l k) (xat_lt l k)
theorem encV_le (l : List Int) : ∀ k, (encV l k).1.length ≤ 77 * k
  | 0 => by simp [encV]
  | k + 1 => by
    rcases Nat.eq_zero_or_pos k with h | h
    · subst h; simp [encV_one, putBits_length]
    · rw [encV_succ l h]
      have h1 := encV_le l k
      have h2 := encX_le (encV l k).2 (xat l k)
      simp only [List.length_append]; omega
theorem encV_part (l : List Int) (n : Nat) : ∀ i, i ≤ n → ∃ C, (encV l n).1 = (encV l i).1 ++ C := by
  induction n with
  | zero =>
    intro i hi
    obtain rfl : i = 0 := by omega
    exact ⟨[], by simp⟩
  | succ n ih =>
    intro i hi
    rcases Nat.lt_or_ge i (n + 1) with h | h
    · rcases Nat.eq_zero_or_pos n with h0 | h0
      · obtain rfl : i = 0 := by omega
        exact ⟨(encV l (n + 1)).1, by simp [encV]⟩
      · obtain ⟨C, hC⟩ := ih i (by omega)
        exact ⟨C ++ (encX (encV l n).2 (xat l n)).1, by rw [encV_succ l h0, hC, List.append_assoc]⟩
    · obtain rfl : i = n + 1 := by omega
      exact ⟨[], by simp⟩
/-- What has been read when i numbers are, from a first window w0. -/
def runV (w0 : Option (Nat × Nat)) (B : List Bool) : Nat → Option (Nat × List Int × Option (Nat × Nat))
  | 0 => some (0, [], w0)
  | i + 1 => (runV w0 B i).bind fun s =>
      if i = 0 then (getAt B s.1 64).map fun (v : Nat) => (s.1 + 64, s.2.1 ++ [wrap64 (v : Int)], s.2.2)
      else (getX B s.1 s.2.2).map fun x => (x.2.1, s.2.1 ++ [wrap64 ((un (s.2.1.getD (i - 1) 0) ^^^ x.1 : Nat) : Int)], x.2.2)
theorem runV_length {w0 : Option (Nat × Nat)} {B : List Bool} {i : Nat} : ∀ {s : Nat × List Int × Option (Nat × Nat)}, runV w0 B i = some s → s.2.1.length = i := by
  induction i with
  | zero => intro s h; simp [runV] at h; subst h; rfl
  | succ i ih =>
    intro s h
    simp only [runV, Option.bind_eq_some_iff] at h
    obtain ⟨t, ht, hs⟩ := h
    have := ih ht
    split at hs
    · simp only [Option.map_eq_some_iff] at hs
      obtain ⟨v, _, rfl⟩ := hs
      simp [this]
    · simp only [Option.map_eq_some_iff] at hs
      obtain ⟨v, _, rfl⟩ := hs
      simp [this]
theorem runV_none {w0 : Option (Nat × Nat)} {B : List Bool} {i j : Nat} (h : runV w0 B i = none) (hj : i ≤ j) : runV w0 B j = none := by
  induction j with
  | zero =>
    obtain rfl : i = 0 := by omega
    exact h
  | succ j ih =>
    rcases Nat.lt_or_ge j i with hl | hg
    · obtain rfl : i = j + 1 := by omega
      exact h
    · simp [runV, ih hg]
def In64 (l : List Int) : Prop := ∀ i, -9223372036854775808 ≤ l.getD i 0 ∧ l.getD i 0 ≤ 9223372036854775807
theorem run_encV (w0 : Option (Nat × Nat)) {l : List Int} (hl : In64 l) {n : Nat} (hn : n ≤ l.length) (Z : List Bool) : ∀ i, i ≤ n →
    ∃ dw, runV w0 ((encV l n).1 ++ Z) i = some ((encV l i).1.length, l.take i, dw) ∧ (dw = (encV l i).2 ∨ (encV l i).2 = none) := by
  intro i
  induction i with
  | zero => intro _; exact ⟨w0, by simp [runV, encV], Or.inr rfl⟩
  | succ i ih =>
    intro hi
    obtain ⟨dw, ih, hd⟩ := ih (by omega)
    have htk : l.take (i + 1) = l.take i ++ [l.getD i 0] := by
      rw [List.take_succ_eq_append_getElem (by omega)]
      simp [List.getD, List.getElem?_eq_getElem (show i < l.length by omega)]
    obtain ⟨C, hC⟩ := encV_part l n (i + 1) hi
    rcases Nat.eq_zero_or_pos i with h0 | h0
    · subst h0
      refine ⟨dw, ?_, Or.inr rfl⟩
      simp only [runV, Option.bind_some, if_true] at ih ⊢
      have hp := getAt_put [] (C ++ Z) (l.getD 0 0) 64
      simp only [List.nil_append, List.length_nil] at hp
      rw [hC, encV_one, List.append_assoc, hp]
      injection ih with ih
      injection ih with _ ih
      injection ih with _ ih
      rw [htk, ← ih]
      have e : wrap64 (((l.getD 0 0 % 2 ^ 64).toNat : Nat) : Int) = l.getD 0 0 := by
        have := hl 0
        exact sg_un this
      simp only [Option.map_some, e, putBits_length, List.take_zero, Nat.zero_add]
    · have hi0 : ¬ i = 0 := by omega
      obtain ⟨dw', hx, hd'⟩ := getX_enc (encV_ok l i) (xat_lt l i) hd (encV l i).1 (C ++ Z)
      refine ⟨dw', ?_, ?_⟩
      · have e : (encV l n).1 ++ Z = (encV l i).1 ++ ((encX (encV l i).2 (xat l i)).1 ++ (C ++ Z)) := by
          rw [hC, encV_succ l h0]; simp
        rw [e] at ih ⊢
        simp only [runV, ih, Option.bind_some, if_neg hi0, hx, Option.map_some]
        have hget : (l.take i).getD (i - 1) 0 = l.getD (i - 1) 0 := by
          simp [List.getD, show i - 1 < i by omega]
        have hxor : un (l.getD (i - 1) 0) ^^^ xat l i = un (l.getD i 0) := by
          unfold xat
          rw [Nat.xor_comm (un (l.getD i 0)), ← Nat.xor_assoc, Nat.xor_self, Nat.zero_xor]
        rw [hget, hxor, sg_un (hl i), htk, encV_succ l h0]
        simp
      · rw [encV_succ l h0]; exact hd'
def packEV (l : List Int) : Int := if 120 < l.length then 2 else 0
def packBV (l : List Int) : List Nat := if packEV l = 0 then bytesOf (encV l l.length).1 else []
def unpackV (w0 : Option (Nat × Nat)) (b : List Nat) (n : Nat) : Option (List Int) := (runV w0 (bitsOf b) n).bind fun s => if packEV s.2.1 = 0 ∧ packBV s.2.1 = b then some s.2.1 else none
/-- What is packed is read again. -/
theorem unpackV_pack (w0 : Option (Nat × Nat)) {l : List Int} (hl : In64 l) (h : packEV l = 0) : unpackV w0 (packBV l) l.length = some l := by
  have hb : packBV l = bytesOf (encV l l.length).1 := by unfold packBV; rw [if_pos h]
  obtain ⟨k, hk⟩ := bitsOf_bytesOf (encV l l.length).1
  obtain ⟨dw, hr, _⟩ := run_encV w0 hl (Nat.le_refl _) (List.replicate k false) l.length (Nat.le_refl _)
  unfold unpackV
  rw [hb, hk, hr]
  simp only [Option.bind_some, List.take_length]
  rw [if_pos ⟨h, hb⟩]
theorem runV_in {w0 : Option (Nat × Nat)} {B : List Bool} {i : Nat} : ∀ {s : Nat × List Int × Option (Nat × Nat)}, runV w0 B i = some s → In64 s.2.1 := by
  have hw : ∀ v : Int, -9223372036854775808 ≤ wrap64 v ∧ wrap64 v ≤ 9223372036854775807 := by intro v; unfold wrap64; omega
  have hap : ∀ (L : List Int) (v : Int), In64 L → In64 (L ++ [wrap64 v]) := by
    intro L v h j
    rcases Nat.lt_or_ge j L.length with hj | hj
    · have := h j
      simpa [List.getD, List.getElem?_append_left hj] using this
    · rcases Nat.eq_or_lt_of_le hj with he | he
      · subst he
        have := hw v
        simpa [List.getD] using this
      · have e : (L ++ [wrap64 v])[j]? = none := List.getElem?_eq_none (by simp; omega)
        simp [List.getD, e]
  induction i with
  | zero => intro s h; simp [runV] at h; subst h; intro j; simp [List.getD]
  | succ i ih =>
    intro s h
    simp only [runV, Option.bind_eq_some_iff] at h
    obtain ⟨t, ht, hs⟩ := h
    have := ih ht
    split at hs
    · simp only [Option.map_eq_some_iff] at hs
      obtain ⟨v, _, rfl⟩ := hs
      exact hap _ _ this
    · simp only [Option.map_eq_some_iff] at hs
      obtain ⟨v, _, rfl⟩ := hs
      exact hap _ _ this
/-- The first window does not matter: the code's reader and the reference's answer alike. -/
theorem unpackV_any (w0 w1 : Option (Nat × Nat)) (b : List Nat) (n : Nat) : unpackV w0 b n = unpackV w1 b n := by
  have key : ∀ (w0 w1 : Option (Nat × Nat)) (L : List Int), unpackV w0 b n = some L → unpackV w1 b n = some L := by
    intro w0 w1 L h
    unfold unpackV at h
    rw [Option.bind_eq_some_iff] at h
    obtain ⟨s, hs, h⟩ := h
    split at h
    · rename_i hc
      injection h with h
      have h1 := runV_length hs
      have h2 := unpackV_pack w1 (runV_in hs) hc.1
      rw [hc.2, h1] at h2
      rw [h2, h]
    · cases h
  cases h0 : unpackV w0 b n with
  | some L => exact (key w0 w1 L h0).symm
  | none =>
    cases h1 : unpackV w1 b n with
    | none => rfl
    | some L => rw [key w1 w0 L h1] at h0; cases h0
end PV
end Go.Proofs.Ytnbamngancchmaa
