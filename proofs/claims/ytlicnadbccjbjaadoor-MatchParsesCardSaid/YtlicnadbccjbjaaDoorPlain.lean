/- Labels, in plain Lean: the order of texts, the making of labels by rising names, from either end. No conditions. -/
import Derived.Laws.Strings
namespace Go.Proofs.YtlicnadbccjbjaaDoor.LB
open Go

/-- The model's order of texts is the lexical one of their bytes. -/
theorem less_eq : ∀ (x y : List UInt8), Op.bytesLess x y = decide (x < y)
  | [], [] => by simp [Op.bytesLess]
  | _ :: _, [] => by simp [Op.bytesLess]
  | [], _ :: _ => by simp [Op.bytesLess]
  | a :: x, b :: y => by
    rw [Op.bytesLess, less_eq x y]
    simp only [List.cons_lt_cons_iff]
    by_cases h1 : a < b <;> by_cases h2 : a = b <;> by_cases h3 : x < y <;> simp [h1, h2, h3]

abbrev Lab := ByteArray × ByteArray
/-- Does a come before b? -/
def lt (a b : ByteArray) : Bool := Op.bytesLess a.toList b.toList

theorem lt_iff (a b : ByteArray) : lt a b = true ↔ a.toList < b.toList := by unfold lt; rw [less_eq]; simp
theorem toList_inj {a b : ByteArray} (h : a.toList = b.toList) : a = b := by
  rw [ByteArray.toList_eq, ByteArray.toList_eq] at h
  have := Array.toList_inj.1 h
  cases a; cases b; simp_all
theorem eq_beq (a b : ByteArray) : (a.toList == b.toList) = decide (a = b) := by
  by_cases h : a = b
  · subst h; simp
  · rw [decide_eq_false h, beq_eq_false_iff_ne]; exact fun e => h (toList_inj e)
theorem lt_irrefl (a : ByteArray) : lt a a = false := by
  have : ¬ a.toList < a.toList := List.lt_irrefl _
  rw [← lt_iff] at this; simpa using this
theorem lt_trans {a b c : ByteArray} (h : lt a b = true) (k : lt b c = true) : lt a c = true := by
  rw [lt_iff] at *; exact List.lt_trans h k
theorem lt_tri (a b : ByteArray) : lt a b = true ∨ a = b ∨ lt b a = true := by
  rw [lt_iff, lt_iff]
  by_cases h : a.toList < b.toList
  · exact .inl h
  · by_cases k : b.toList < a.toList
    · exact .inr (.inr k)
    · refine .inr (.inl (toList_inj ?_))
      have h1 : b.toList ≤ a.toList := List.not_lt.1 h
      have h2 : a.toList ≤ b.toList := List.not_lt.1 k
      exact List.le_antisymm h2 h1
theorem lt_asymm {a b : ByteArray} (h : lt a b = true) : lt b a = false := by
  cases hb : lt b a with
  | false => rfl
  | true => have := lt_trans h hb; rw [lt_irrefl] at this; cases this
theorem ne_of_lt {a b : ByteArray} (h : lt a b = true) : a ≠ b := by
  rintro rfl; rw [lt_irrefl] at h; cases h

/-! ### making labels -/
def okB (c : UInt8) : Bool := (decide (97 ≤ c.toNat) && decide (c.toNat ≤ 122)) || (decide (65 ≤ c.toNat) && decide (c.toNat ≤ 90)) || (decide (48 ≤ c.toNat) && decide (c.toNat ≤ 57)) || decide (c.toNat = 95)
def digitB (c : UInt8) : Bool := decide (48 ≤ c.toNat) && decide (c.toNat ≤ 57)
def plainB (s : ByteArray) : Bool := s.data.toList.all okB
def nameB (s : ByteArray) : Bool := decide (0 < s.size) && decide (s.size ≤ 64) && !digitB (s.data.toList.getD 0 0) && plainB s
def labOK (x : Lab) : Bool := nameB x.1 && decide (0 < x.2.size) && decide (x.2.size ≤ 64)

/-- One more label, put in by its name from the front; none: one of that name is there. -/
def insL : List Lab → Lab → Option (List Lab)
  | [], x => some [x]
  | y :: r, x => if lt y.1 x.1 = true then (insL r x).map (y :: ·) else if y.1 = x.1 then none else some (x :: y :: r)
def stepL (o : Option (List Lab)) (x : Lab) : Option (List Lab) := o.bind fun out => if labOK x = true then insL out x else none
def foldL (l : List Lab) : Option (List Lab) := l.foldl stepL (some [])
def mkL (l : List Lab) : Option (List Lab) := if l.length = 0 ∨ 16 < l.length then none else foldL l

theorem foldl_none (l : List Lab) : l.foldl stepL none = none := by
  induction l with
  | nil => rfl
  | cons a l ih => exact ih
theorem foldL_snoc (l : List Lab) (x : Lab) : foldL (l ++ [x]) = stepL (foldL l) x := by unfold foldL; rw [List.foldl_append]; rfl
theorem foldL_take {l : List Lab} {k : Nat} (hk : k < l.length) : foldL (l.take (k + 1)) = stepL (foldL (l.take k)) l[k] := by
  rw [List.take_succ_eq_append_getElem hk, foldL_snoc]
/-- Once there are none, there are none. -/
theorem foldL_stuck {l : List Lab} {k : Nat} (h : foldL (l.take k) = none) : foldL l = none := by
  have e : foldL l = (l.drop k).foldl stepL (foldL (l.take k)) := by
    unfold foldL
    rw [← List.foldl_append, List.take_append_drop]
  rw [e, h, foldl_none]

/-- Rising names. -/
def Up (l : List Lab) : Prop := l.Pairwise fun a b => lt a.1 b.1 = true

theorem insL_all {pre post : List Lab} {x : Lab} (h : ∀ y ∈ pre, lt y.1 x.1 = true) : insL (pre ++ post) x = (insL post x).map (pre ++ ·) := by
  induction pre with
  | nil => simp
  | cons y r ih =>
    rw [List.cons_append, insL, if_pos (h y (List.mem_cons_self)), ih fun z hz => h z (List.mem_cons_of_mem _ hz), Option.map_map]
    rfl
theorem insL_front {post : List Lab} {x : Lab} (h : ∀ y ∈ post, lt x.1 y.1 = true) : insL post x = some (x :: post) := by
  cases post with
  | nil => rfl
  | cons y r =>
    have hy := h y List.mem_cons_self
    rw [insL, if_neg (by rw [lt_asymm hy]; decide), if_neg (Ne.symm (ne_of_lt hy))]
theorem insL_mid {pre post : List Lab} {x : Lab} (h : ∀ y ∈ pre, lt y.1 x.1 = true) (k : ∀ y ∈ post, lt x.1 y.1 = true) : insL (pre ++ post) x = some (pre ++ x :: post) := by
  rw [insL_all h, insL_front k]; rfl
theorem insL_same {pre post : List Lab} {x y : Lab} (h : ∀ z ∈ pre, lt z.1 x.1 = true) (e : y.1 = x.1) : insL (pre ++ y :: post) x = none := by
  rw [insL_all h, insL, if_neg (by rw [e, lt_irrefl]; decide), if_pos e]; rfl
theorem insL_len {out m : List Lab} {x : Lab} (h : insL out x = some m) : m.length = out.length + 1 := by
  induction out generalizing m with
  | nil => simp [insL] at h; subst h; rfl
  | cons y r ih =>
    unfold insL at h
    split at h
    · cases hr : insL r x with
      | none => rw [hr] at h; cases h
      | some a => rw [hr] at h; injection h with h; subst h; simp [ih hr]
    · split at h
      · cases h
      · injection h with h; subst h; rfl
theorem insL_mem {out m : List Lab} {x z : Lab} (h : insL out x = some m) (hz : z ∈ m) : z = x ∨ z ∈ out := by
  induction out generalizing m with
  | nil => simp [insL] at h; subst h; simpa using hz
  | cons y r ih =>
    unfold insL at h
    split at h
    · cases hr : insL r x with
      | none => rw [hr] at h; cases h
      | some a =>
        rw [hr] at h; injection h with h; subst h
        rcases List.mem_cons.1 hz with h | h
        · exact .inr (by rw [h]; exact List.mem_cons_self)
        · exact (ih hr h).imp id (List.mem_cons_of_mem _)
    · split at h
      · cases h
      · injection h with h; subst h
        exact List.mem_cons.1 hz
theorem insL_up {out m : List Lab} {x : Lab} (hu : Up out) (h : insL out x = some m) : Up m := by
  induction out generalizing m with
  | nil => simp [insL] at h; subst h; exact List.pairwise_singleton _ _
  | cons y r ih =>
    obtain ⟨hy, hr⟩ := List.pairwise_cons.1 hu
    unfold insL at h
    split at h
    · rename_i hlt
      cases hr' : insL r x with
      | none => rw [hr'] at h; cases h
      | some a =>
        rw [hr'] at h; injection h with h; subst h
        refine List.pairwise_cons.2 ⟨fun z hz => ?_, ih hr hr'⟩
        rcases insL_mem hr' hz with rfl | hz
        · exact hlt
        · exact hy z hz
    · rename_i hlt
      split at h
      · cases h
      · rename_i hne
        injection h with h; subst h
        have hxy : lt x.1 y.1 = true := by
          rcases lt_tri x.1 y.1 with h | h | h
          · exact h
          · exact absurd h.symm hne
          · exact absurd h hlt
        refine List.pairwise_cons.2 ⟨fun z hz => ?_, hu⟩
        rcases List.mem_cons.1 hz with rfl | hz
        · exact hxy
        · exact lt_trans hxy (hy z hz)
theorem foldL_up {l m : List Lab} (h : foldL l = some m) : Up m ∧ m.length = l.length := by
  have : ∀ k, k ≤ l.length → ∀ m, foldL (l.take k) = some m → Up m ∧ m.length = k := by
    intro k
    induction k with
    | zero => intro _ m h; simp [foldL] at h; subst h; exact ⟨List.Pairwise.nil, rfl⟩
    | succ k ih =>
      intro hk m h
      rw [foldL_take (by omega)] at h
      cases h1 : foldL (l.take k) with
      | none => rw [h1] at h; cases h
      | some a =>
        obtain ⟨ha, hb⟩ := ih (by omega) a h1
        rw [h1] at h
        unfold stepL at h
        rw [Option.bind_some] at h
        split at h
        · exact ⟨insL_up ha h, by rw [insL_len h, hb]⟩
        · cases h
  have h2 := this l.length (Nat.le_refl _) m (by rw [List.take_length]; exact h)
  exact h2

/-! ### how labels stand to one another -/
def c3 (a b : ByteArray) : Int := if lt a b = true then -1 else if lt b a = true then 1 else 0
theorem c3_self (a : ByteArray) : c3 a a = 0 := by simp [c3, lt_irrefl]
theorem c3_flip (a b : ByteArray) : c3 b a = - c3 a b := by
  unfold c3
  rcases lt_tri a b with h | rfl | h
  · rw [lt_asymm h, h]; decide
  · rw [lt_irrefl]; decide
  · rw [lt_asymm h, h]; decide
theorem c3_zero {a b : ByteArray} (h : c3 a b = 0) : a = b := by
  unfold c3 at h
  rcases lt_tri a b with k | k | k
  · rw [k] at h; simp at h
  · exact k
  · rw [lt_asymm k, k] at h; simp at h
theorem c3_neg {a b : ByteArray} : c3 a b < 0 ↔ lt a b = true := by
  unfold c3
  rcases lt_tri a b with k | rfl | k
  · rw [k]; simp
  · rw [lt_irrefl]; simp
  · rw [lt_asymm k, k]; simp

def lc (a b : Lab) : Int := if c3 a.1 b.1 = 0 then c3 a.2 b.2 else c3 a.1 b.1
theorem lc_self (a : Lab) : lc a a = 0 := by simp [lc, c3_self]
theorem lc_flip (a b : Lab) : lc b a = - lc a b := by
  unfold lc
  rw [c3_flip a.1 b.1, c3_flip a.2 b.2]
  by_cases h : c3 a.1 b.1 = 0
  · rw [h]; simp
  · rw [if_neg h, if_neg (by omega)]
theorem lc_zero {a b : Lab} (h : lc a b = 0) : a = b := by
  unfold lc at h
  split at h
  · rename_i h1; exact Prod.ext (c3_zero h1) (c3_zero h)
  · contradiction
theorem lc_trans {a b c : Lab} (h : lc a b < 0) (k : lc b c < 0) : lc a c < 0 := by
  unfold lc at h k ⊢
  by_cases h1 : c3 a.1 b.1 = 0
  · rw [if_pos h1] at h
    have e := c3_zero h1
    rw [e]
    by_cases k1 : c3 b.1 c.1 = 0
    · rw [if_pos k1] at k ⊢
      exact c3_neg.2 (lt_trans (c3_neg.1 h) (c3_neg.1 k))
    · rw [if_neg k1] at k ⊢; exact k
  · rw [if_neg h1] at h
    by_cases k1 : c3 b.1 c.1 = 0
    · have e := c3_zero k1
      rw [← e, if_neg h1]; exact h
    · rw [if_neg k1] at k
      have := c3_neg.2 (lt_trans (c3_neg.1 h) (c3_neg.1 k))
      rw [if_neg (by omega)]; exact this

/-- How two lists of labels stand to one another. -/
def cmpL : List Lab → List Lab → Int
  | [], [] => 0
  | [], _ :: _ => -1
  | _ :: _, [] => 1
  | a :: x, b :: y => if lc a b = 0 then cmpL x y else lc a b
theorem cmpL_self (a : List Lab) : cmpL a a = 0 := by
  induction a with
  | nil => rfl
  | cons x r ih => rw [cmpL, if_pos (lc_self x), ih]
theorem cmpL_flip : ∀ (a b : List Lab), cmpL b a = - cmpL a b
  | [], [] => rfl
  | [], _ :: _ => rfl
  | _ :: _, [] => rfl
  | a :: x, b :: y => by
    rw [cmpL, cmpL, lc_flip a b, cmpL_flip x y]
    by_cases h : lc a b = 0
    · rw [if_pos h, if_pos (by omega)]
    · rw [if_neg h, if_neg (by omega)]
theorem cmpL_zero : ∀ {a b : List Lab}, cmpL a b = 0 → a = b
  | [], [], _ => rfl
  | [], _ :: _, h => by simp [cmpL] at h
  | _ :: _, [], h => by simp [cmpL] at h
  | a :: x, b :: y, h => by
    rw [cmpL] at h
    split at h
    · rename_i h1; rw [lc_zero h1, cmpL_zero h]
    · contradiction
theorem cmpL_trans : ∀ {a b c : List Lab}, cmpL a b < 0 → cmpL b c < 0 → cmpL a c < 0
  | [], _, [], h, k => by
    rename_i b
    cases b with
    | nil => simp [cmpL] at h
    | cons _ _ => simp [cmpL] at k
  | [], _, _ :: _, _, _ => by simp [cmpL]
  | _ :: _, [], _, h, _ => by simp [cmpL] at h
  | _ :: _, _ :: _, [], _, k => by simp [cmpL] at k
  | a :: x, b :: y, c :: z, h, k => by
    rw [cmpL] at h k ⊢
    by_cases h1 : lc a b = 0
    · rw [if_pos h1] at h
      rw [lc_zero h1]
      by_cases k1 : lc b c = 0
      · rw [if_pos k1] at k ⊢; exact cmpL_trans h k
      · rw [if_neg k1] at k ⊢; exact k
    · rw [if_neg h1] at h
      by_cases k1 : lc b c = 0
      · rw [← lc_zero k1, if_neg h1]; exact h
      · rw [if_neg k1] at k
        have := lc_trans h k
        rw [if_neg (by omega)]; exact this
/-- It is an order. -/
theorem cmpL_order (a b c : List Lab) : ¬ (cmpL a b ≤ 0 ∧ cmpL b c ≤ 0 ∧ 0 < cmpL a c) := by
  rintro ⟨h1, h2, h3⟩
  rcases Int.lt_or_eq_of_le h1 with h | h
  · rcases Int.lt_or_eq_of_le h2 with k | k
    · have := cmpL_trans h k; omega
    · rw [← cmpL_zero k] at h3; omega
  · rw [cmpL_zero h] at h3; omega
theorem cmpL_range : ∀ (a b : List Lab), -1 ≤ cmpL a b ∧ cmpL a b ≤ 1
  | [], [] => by simp [cmpL]
  | [], _ :: _ => by simp [cmpL]
  | _ :: _, [] => by simp [cmpL]
  | a :: x, b :: y => by
    rw [cmpL]
    have hc : ∀ p q, -1 ≤ c3 p q ∧ c3 p q ≤ 1 := fun p q => by
      unfold c3
      split
      · simp
      · split <;> simp
    split
    · exact cmpL_range x y
    · unfold lc; split <;> exact hc _ _

/-! ### texts -/
def hexD (n : Nat) : UInt8 := if n < 10 then UInt8.ofNat (48 + n) else UInt8.ofNat (87 + n)
def escB (c : UInt8) : List UInt8 := if c.toNat < 32 ∨ 126 < c.toNat ∨ c.toNat = 34 ∨ c.toNat = 92 then [92, hexD (c.toNat / 16), hexD (c.toNat % 16)] else [c]
def quoteL (s : ByteArray) : List UInt8 := 34 :: s.data.toList.flatMap escB ++ [34]
def itemsL (c : UInt8) : List Lab → List UInt8
  | [] => []
  | x :: r => c :: (x.1.data.toList ++ 61 :: quoteL x.2) ++ itemsL 44 r
def textM (m : List Lab) : List UInt8 := itemsL 123 m ++ [125]
def textL (l : List Lab) : List UInt8 := match mkL l with | none => [] | some m => textM m
end Go.Proofs.YtlicnadbccjbjaaDoor.LB
