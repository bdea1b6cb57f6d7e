/- Plain law of chapter 6: what is packed of rising times is read again. Lists and integers alone (no program in sight). No conditions. -/
import Derived.Test.YtnbamngancchmaaBits
namespace Go.Proofs.Ytnbamngancchmaa
open Go.RowKit (wrap64)
namespace PS
open PB

def wid : Nat → Nat | 0 => 0 | 1 => 7 | 2 => 9 | 3 => 12 | _ => 64
def low : Nat → Int | 0 => 0 | 1 => -63 | 2 => -255 | 3 => -2047 | _ => 0
theorem wid_le (k : Nat) : wid k ≤ 64 := by unfold wid; split <;> omega
theorem low_b (k : Nat) : -2047 ≤ low k ∧ low k ≤ 0 := by unfold low; split <;> omega
def encDiff (e : Int) : List Bool :=
  if e = 0 then [false]
  else if -63 ≤ e ∧ e ≤ 64 then [true, false] ++ putBits (e + 63) 7
  else if -255 ≤ e ∧ e ≤ 256 then [true, true, false] ++ putBits (e + 255) 9
  else if -2047 ≤ e ∧ e ≤ 2048 then [true, true, true, false] ++ putBits (e + 2047) 12
  else [true, true, true, true] ++ putBits e 64
theorem encDiff_le (e : Int) : (encDiff e).length ≤ 68 := by
  unfold encDiff
  repeat' split
  all_goals simp [putBits_length]
/-- The difference ahead of element i. -/
def dprev (l : List Int) (i : Nat) : Int := if i ≤ 1 then 0 else l.getD (i - 1) 0 - l.getD (i - 2) 0
def encAt (l : List Int) (i : Nat) : List Bool := if i = 0 then putBits (l.getD 0 0) 64 else encDiff (l.getD i 0 - l.getD (i - 1) 0 - dprev l i)
def enc (l : List Int) (k : Nat) : List Bool := (List.range k).flatMap (encAt l)
theorem enc_zero (l : List Int) : enc l 0 = [] := rfl
theorem enc_succ (l : List Int) (k : Nat) : enc l (k + 1) = enc l k ++ encAt l k := by simp [enc, List.range_succ]
theorem encAt_le (l : List Int) (i : Nat) : (encAt l i).length ≤ 68 := by
  unfold encAt
  split
  · simp [putBits_length]
  · exact encDiff_le _
theorem enc_le (l : List Int) (k : Nat) : (enc l k).length ≤ 68 * k := by
  induction k with
  | zero => simp [enc]
  | succ k ih => rw [enc_succ, List.length_append]; have := encAt_le l k; omega
theorem enc_part (l : List Int) (n : Nat) : ∀ i, i < n → ∃ C, enc l n = enc l i ++ (encAt l i ++ C) := by
  induction n with
  | zero => intro i hi; omega
  | succ n ih =>
    intro i hi
    rcases Nat.lt_or_ge i n with h | h
    · obtain ⟨C, hC⟩ := ih i h
      exact ⟨C ++ encAt l n, by rw [enc_succ, hC]; simp⟩
    · obtain rfl : i = n := by omega
      exact ⟨[], by rw [enc_succ]; simp⟩

def goodAt (l : List Int) (i : Nat) : Bool := decide (-9007199254740992 ≤ l.getD i 0 ∧ l.getD i 0 ≤ 9007199254740992) && (decide (i = 0) || decide (l.getD (i - 1) 0 < l.getD i 0))
def good (l : List Int) (k : Nat) : Bool := (List.range k).all (goodAt l)
theorem good_zero (l : List Int) : good l 0 = true := rfl
theorem good_succ (l : List Int) (k : Nat) : good l (k + 1) = (good l k && goodAt l k) := by simp [good, List.range_succ]
theorem good_at {l : List Int} {n : Nat} (h : good l n = true) {i : Nat} (hi : i < n) : goodAt l i = true := by
  unfold good at h
  rw [List.all_eq_true] at h
  exact h i (by simpa using hi)
theorem goodAt_b {l : List Int} {i : Nat} (h : goodAt l i = true) : -9007199254740992 ≤ l.getD i 0 ∧ l.getD i 0 ≤ 9007199254740992 ∧ (0 < i → l.getD (i - 1) 0 < l.getD i 0) := by
  unfold goodAt at h
  simp only [Bool.and_eq_true, Bool.or_eq_true, decide_eq_true_eq] at h
  exact ⟨h.1.1, h.1.2, fun hp => by rcases h.2 with h | h <;> omega⟩

/-- What is packed: the error, the bytes. -/
def packE (l : List Int) : Int := if 120 < l.length then 2 else if good l l.length = true then 0 else 21
def packB (l : List Int) : List Nat := if packE l = 0 then bytesOf (enc l l.length) else []
theorem packE_zero {l : List Int} : packE l = 0 ↔ l.length ≤ 120 ∧ good l l.length = true := by
  unfold packE
  constructor
  · intro h
    split at h
    · omega
    · split at h
      · exact ⟨by omega, by assumption⟩
      · omega
  · intro ⟨h1, h2⟩
    rw [if_neg (by omega), if_pos h2]

/-- How many ones there are, four at most, and where the next bit is. -/
def onesF (B : List Bool) : Nat → Nat → Option (Nat × Nat)
  | 0, pos => some (0, pos)
  | f + 1, pos => match B[pos]? with
    | none => none
    | some true => (onesF B f (pos + 1)).map fun x => (x.1 + 1, x.2)
    | some false => some (0, pos + 1)
def getDiff (B : List Bool) (pos : Nat) : Option (Int × Nat) :=
  (onesF B 4 pos).bind fun x => (getAt B x.2 (wid x.1)).map fun (v : Nat) => (wrap64 (wrap64 (v : Int) + low x.1), x.2 + wid x.1)
theorem getDiff_enc (A C : List Bool) (e : Int) (h1 : -9223372036854775808 ≤ e) (h2 : e ≤ 9223372036854775807) :
    getDiff (A ++ (encDiff e ++ C)) A.length = some (e, A.length + (encDiff e).length) := by
  unfold encDiff
  by_cases c0 : e = 0
  · subst c0
    simp [getDiff, onesF, getAt, wid, low, natOf, wrap64]
  · rw [if_neg c0]
    by_cases c1 : -63 ≤ e ∧ e ≤ 64
    · rw [if_pos c1]
      have ho : onesF (A ++ (([true, false] ++ putBits (e + 63) 7) ++ C)) 4 A.length = some (1, A.length + 2) := by
        simp [onesF, Nat.add_assoc, List.getElem?_append_right]
        rfl
      have hg := getAt_put (A ++ [true, false]) C (e + 63) 7
      simp only [List.append_assoc, List.length_append, List.length_cons, List.length_nil] at hg ho ⊢
      unfold getDiff
      rw [ho]
      simp only [Option.bind_some, wid, low]
      rw [hg]
      simp only [Option.map_some, putBits_length, Option.some.injEq, Prod.mk.injEq]
      have e1 : (e + 63) % 2 ^ 7 = e + 63 := Int.emod_eq_of_lt (by omega) (by omega)
      rw [e1]
      (try refine And.intro ?_ ?_) <;> first | omega | exact True.intro | (unfold wrap64; omega)
    · rw [if_neg c1]
      by_cases c2 : -255 ≤ e ∧ e ≤ 256
      · rw [if_pos c2]
        have ho : onesF (A ++ (([true, true, false] ++ putBits (e + 255) 9) ++ C)) 4 A.length = some (2, A.length + 3) := by
          simp [onesF, Nat.add_assoc, List.getElem?_append_right]
          rfl
        have hg := getAt_put (A ++ [true, true, false]) C (e + 255) 9
        simp only [List.append_assoc, List.length_append, List.length_cons, List.length_nil] at hg ho ⊢
        unfold getDiff
        rw [ho]
        simp only [Option.bind_some, wid, low]
        rw [hg]
        simp only [Option.map_some, putBits_length, Option.some.injEq, Prod.mk.injEq]
        have e1 : (e + 255) % 2 ^ 9 = e + 255 := Int.emod_eq_of_lt (by omega) (by omega)
        rw [e1]
        (try refine And.intro ?_ ?_) <;> first | omega | exact True.intro | (unfold wrap64; omega)
      · rw [if_neg c2]
        by_cases c3 : -2047 ≤ e ∧ e ≤ 2048
        · rw [if_pos c3]
          have ho : onesF (A ++ (([true, true, true, false] ++ putBits (e + 2047) 12) ++ C)) 4 A.length = some (3, A.length + 4) := by
            simp [onesF, Nat.add_assoc, List.getElem?_append_right]
            rfl
          have hg := getAt_put (A ++ [true, true, true, false]) C (e + 2047) 12
          simp only [List.append_assoc, List.length_append, List.length_cons, List.length_nil] at hg ho ⊢
          unfold getDiff
          rw [ho]
          simp only [Option.bind_some, wid, low]
          rw [hg]
          simp only [Option.map_some, putBits_length, Option.some.injEq, Prod.mk.injEq]
          have e1 : (e + 2047) % 2 ^ 12 = e + 2047 := Int.emod_eq_of_lt (by omega) (by omega)
          rw [e1]
          (try refine And.intro ?_ ?_) <;> first | omega | exact True.intro | (unfold wrap64; omega)
        · rw [if_neg c3]
          have ho : onesF (A ++ (([true, true, true, true] ++ putBits e 64) ++ C)) 4 A.length = some (4, A.length + 4) := by
            simp [onesF, Nat.add_assoc, List.getElem?_append_right]
            rfl
          have hg := getAt_put (A ++ [true, true, true, true]) C e 64
          simp only [List.append_assoc, List.length_append, List.length_cons, List.length_nil] at hg ho ⊢
          unfold getDiff
          rw [ho]
          simp only [Option.bind_some, wid, low]
          rw [hg]
          simp only [Option.map_some, putBits_length, Option.some.injEq, Prod.mk.injEq]
          (try refine And.intro ?_ ?_) <;> first | omega | exact True.intro | (unfold wrap64; omega)

/-- What has been read when i times are: the place, the times, the last difference; none: they are none. -/
def runS (B : List Bool) : Nat → Option (Nat × List Int × Int)
  | 0 => some (0, [], 0)
  | i + 1 => (runS B i).bind fun s =>
      if i = 0 then (getAt B s.1 64).map fun (v : Nat) => (s.1 + 64, s.2.1 ++ [wrap64 (v : Int)], s.2.2)
      else (getDiff B s.1).map fun x => (x.2, s.2.1 ++ [wrap64 (s.2.1.getD (i - 1) 0 + wrap64 (s.2.2 + x.1))], wrap64 (s.2.2 + x.1))
theorem runS_length {B : List Bool} {i : Nat} : ∀ {s : Nat × List Int × Int}, runS B i = some s → s.2.1.length = i := by
  induction i with
  | zero => intro s h; simp [runS] at h; subst h; rfl
  | succ i ih =>
    intro s h
    simp only [runS, Option.bind_eq_some_iff] at h
    obtain ⟨t, ht, hs⟩ := h
    have := ih ht
    split at hs
    · simp only [Option.map_eq_some_iff] at hs
      obtain ⟨v, _, rfl⟩ := hs
      simp [this]
    · simp only [Option.map_eq_some_iff] at hs
      obtain ⟨v, _, rfl⟩ := hs
      simp [this]
theorem runS_none {B : List Bool} {i j : Nat} (h : runS B i = none) (hj : i ≤ j) : runS B j = none := by
  induction j with
  | zero =>
    obtain rfl : i = 0 := by omega
    exact h
  | succ j ih =>
    rcases Nat.lt_or_ge j i with hl | hg
    · obtain rfl : i = j + 1 := by omega
      exact h
    · simp [runS, ih hg]
def unpack (b : List Nat) (n : Nat) : Option (List Int) := (runS (bitsOf b) n).bind fun s => if packE s.2.1 = 0 ∧ packB s.2.1 = b then some s.2.1 else none

theorem run_enc {l : List Int} {n : Nat} (hg : good l n = true) (hn : n ≤ l.length) (Z : List Bool) : ∀ i, i ≤ n → runS (enc l n ++ Z) i = some ((enc l i).length, l.take i, dprev l i) := by
  intro i
  induction i with
  | zero => intro _; simp [runS, enc, dprev]
  | succ i ih =>
    intro hi
    have ih := ih (by omega)
    have gi := goodAt_b (good_at hg (i := i) (by omega))
    obtain ⟨C, hC⟩ := enc_part l n i (by omega)
    have htk : l.take (i + 1) = l.take i ++ [l.getD i 0] := by
      rw [List.take_succ_eq_append_getElem (by omega)]
      simp [List.getD, List.getElem?_eq_getElem (show i < l.length by omega)]
    simp only [runS, ih, Option.bind_some]
    by_cases h0 : i = 0
    · subst h0
      simp only [if_true]
      rw [hC, enc_zero, List.nil_append]
      have hp := getAt_put [] (C ++ Z) (l.getD 0 0) 64
      simp only [List.nil_append, List.length_nil] at hp
      have he : encAt l 0 = putBits (l.getD 0 0) 64 := by simp [encAt]
      rw [he, List.append_assoc, List.length_nil, hp]
      simp only [Option.map_some, htk, enc_succ, enc_zero, he, putBits_length, List.nil_append, List.take_zero, Option.some.injEq, Prod.mk.injEq, List.cons.injEq, and_true]
      repeat' apply And.intro
      all_goals first | omega | (unfold wrap64; omega) | simp [dprev]
    · simp only [if_neg h0]
      have gp := goodAt_b (good_at hg (i := i - 1) (by omega))
      have hd : -9007199254740992 * 2 ≤ dprev l i ∧ dprev l i ≤ 9007199254740992 * 2 := by
        unfold dprev
        split
        · omega
        · have gq := goodAt_b (good_at hg (i := i - 2) (by omega))
          omega
      have he : encAt l i = encDiff (l.getD i 0 - l.getD (i - 1) 0 - dprev l i) := by simp [encAt, h0]
      have hx := getDiff_enc (enc l i) (C ++ Z) (l.getD i 0 - l.getD (i - 1) 0 - dprev l i) (by omega) (by omega)
      rw [hC, he, List.append_assoc, List.append_assoc, hx]
      have hget : (l.take i).getD (i - 1) 0 = l.getD (i - 1) 0 := by
        simp [List.getD, show i - 1 < i by omega]
      have hdi : dprev l (i + 1) = l.getD i 0 - l.getD (i - 1) 0 := by
        unfold dprev; rw [if_neg (by omega)]; rfl
      have w1 : wrap64 (dprev l i + (l.getD i 0 - l.getD (i - 1) 0 - dprev l i)) = l.getD i 0 - l.getD (i - 1) 0 := by
        unfold wrap64; omega
      simp only [Option.map_some, w1, hget, htk, hdi, enc_succ, he, List.length_append, Option.some.injEq, Prod.mk.injEq, and_true]
      have w2 : wrap64 (l.getD (i - 1) 0 + (l.getD i 0 - l.getD (i - 1) 0)) = l.getD i 0 := by unfold wrap64; omega
      rw [w2]
      simp

/-- What is packed is read again. -/
theorem unpack_pack {l : List Int} (h : packE l = 0) : unpack (packB l) l.length = some l := by
  obtain ⟨h1, h2⟩ := packE_zero.1 h
  unfold unpack
  have hb : packB l = bytesOf (enc l l.length) := by unfold packB; rw [if_pos h]
  obtain ⟨k, hk⟩ := bitsOf_bytesOf (enc l l.length)
  rw [hb, hk, run_enc h2 (Nat.le_refl _) _ l.length (Nat.le_refl _)]
  simp only [Option.bind_some, List.take_length]
  rw [if_pos ⟨h, hb⟩]
end PS
end Go.Proofs.Ytnbamngancchmaa
