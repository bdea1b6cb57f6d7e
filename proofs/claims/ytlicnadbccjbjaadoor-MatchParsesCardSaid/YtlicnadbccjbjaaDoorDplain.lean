/- Texts that are read, in plain Lean: words, quoted values, and that a text of labels is read as these. No conditions. -/
import Derived.Test.YtlicnadbccjbjaaDoorText
import Derived.Lib.Strings
namespace Go.Proofs.YtlicnadbccjbjaaDoor
open Go.RowKit LB

/-- A text out of bytes. -/
def bs (l : List UInt8) : ByteArray := ⟨l.toArray⟩
theorem bs_data (l : List UInt8) : (bs l).data.toList = l := by simp [bs]
theorem bs_of (s : ByteArray) : bs s.data.toList = s := by cases s; simp [bs]
theorem bs_size (l : List UInt8) : (bs l).size = l.length := rfl
theorem bs_toList (l : List UInt8) : (bs l).toList = l := by rw [ByteArray.toList_eq, bs_data]
theorem bs_inj {a b : List UInt8} (h : bs a = bs b) : a = b := by rw [← bs_data a, h, bs_data]
def hexL : List UInt8 := [48, 49, 50, 51, 52, 53, 54, 55, 56, 57, 97, 98, 99, 100, 101, 102]
/-- What a digit tells; below 0: it is none. -/
def hexI (c : UInt8) : Int := Lib.indexByte hexL c
/-- The bytes of a quoted value, from behind its first quote on. -/
def unq : List UInt8 → List UInt8 → Option (List UInt8 × List UInt8)
  | [], _ => none
  | c :: r, acc =>
    if c = 34 then some (acc, r)
    else if c = 92 then
      match r with
      | a :: b :: r' => if hexI a < 0 ∨ hexI b < 0 then none else unq r' (acc ++ [UInt8.ofNat (16 * (hexI a).toNat + (hexI b).toNat)])
      | _ => none
    else unq r (acc ++ [c])
def unqS : List UInt8 → Option (List UInt8 × List UInt8)
  | 34 :: r => unq r []
  | _ => none

theorem index_range (l : List UInt8) (c : UInt8) : -1 ≤ Lib.indexByte l c ∧ Lib.indexByte l c < l.length := by
  induction l with
  | nil => simp [Lib.indexByte]
  | cons b l ih =>
    simp only [Lib.indexByte]
    split
    · simp
    · split
      · simp; omega
      · simp; omega
theorem hexI_range (c : UInt8) : -1 ≤ hexI c ∧ hexI c < 16 := index_range hexL c
theorem hex_digits : ∀ n : Fin 16, hexI (hexD n.val) = n.val := by decide
theorem hexI_digit {n : Nat} (h : n < 16) : hexI (hexD n) = n := hex_digits ⟨n, h⟩
theorem unq_plain {c : UInt8} {r acc : List UInt8} (h1 : c ≠ 34) (h2 : c ≠ 92) : unq (c :: r) acc = unq r (acc ++ [c]) := by rw [unq.eq_def]; simp [h1, h2]
theorem unq_esc {a b : UInt8} {r acc : List UInt8} (h : ¬ (hexI a < 0 ∨ hexI b < 0)) : unq (92 :: a :: b :: r) acc = unq r (acc ++ [UInt8.ofNat (16 * (hexI a).toNat + (hexI b).toNat)]) := by
  rw [unq.eq_def]
  have : ¬ ((92 : UInt8) = 34) := by decide
  simp only [this, if_false, if_true]
  rw [if_neg h]
theorem unq_end (r acc : List UInt8) : unq (34 :: r) acc = some (acc, r) := by rw [unq.eq_def]; simp
theorem unq_one (c : UInt8) (r acc : List UInt8) : unq (escB c ++ r) acc = unq r (acc ++ [c]) := by
  unfold escB
  split
  · have h256 : c.toNat < 256 := c.toNat_lt
    have e1 := hexI_digit (n := c.toNat / 16) (by omega)
    have e2 := hexI_digit (n := c.toNat % 16) (by omega)
    show unq (92 :: hexD (c.toNat / 16) :: hexD (c.toNat % 16) :: r) acc = _
    rw [unq_esc (by rw [e1, e2]; omega), e1, e2]
    congr 3
    have : 16 * (c.toNat / 16) + c.toNat % 16 = c.toNat := by omega
    simp only [Int.toNat_natCast, this]
    simp
  · rename_i h
    have h1 : c ≠ 34 := by rintro rfl; exact h (by decide)
    have h2 : c ≠ 92 := by rintro rfl; exact h (by decide)
    exact unq_plain h1 h2
theorem unq_all (v r : List UInt8) : ∀ acc, unq (v.flatMap escB ++ 34 :: r) acc = some (acc ++ v, r) := by
  induction v with
  | nil => intro acc; simp [unq_end]
  | cons c v ih => intro acc; rw [List.flatMap_cons, List.append_assoc, unq_one, ih]; simp
/-- What is quoted is read. -/
theorem unqS_quote (v : ByteArray) (r : List UInt8) : unqS (quoteL v ++ r) = some (v.data.toList, r) := by
  unfold quoteL
  show unqS (34 :: (v.data.toList.flatMap escB ++ [34] ++ r)) = _
  unfold unqS
  rw [List.append_assoc]
  exact unq_all _ _ _

theorem word_take {x r : List UInt8} {c : UInt8} (h : x.all okB = true) (hc : okB c = false) : (x ++ c :: r).takeWhile okB = x ∧ (x ++ c :: r).dropWhile okB = c :: r := by
  induction x with
  | nil => simp [hc]
  | cons a x ih =>
    rw [List.all_cons, Bool.and_eq_true] at h
    have := ih h.2
    simp [h.1, this.1, this.2]
theorem ok61 : okB 61 = false := by decide

/-- Labels as Make leaves them. -/
def Good (m : List Lab) : Prop := mkL m = some m
theorem good_pos {m : List Lab} (h : Good m) : 0 < m.length := by
  have := (mkL_small h).2.2.1; exact this
theorem good_ok {m : List Lab} (h : Good m) : ∀ x ∈ m, labOK x = true := (mkL_small h).2.2.2.2.2
theorem foldL_self {m : List Lab} (hu : Up m) (ho : ∀ x ∈ m, labOK x = true) : foldL m = some m := by
  have : ∀ k, k ≤ m.length → foldL (m.take k) = some (m.take k) := by
    intro k
    induction k with
    | zero => intro _; rfl
    | succ k ih =>
      intro hk
      rw [foldL_take (by omega), ih (by omega)]
      unfold stepL
      rw [Option.bind_some, if_pos (ho _ (List.getElem_mem _))]
      have h := insL_mid (pre := m.take k) (post := []) (x := m[k]) (fun y hy => by
        have h1 := List.pairwise_append.1 (show (m.take k ++ m.drop k).Pairwise _ by rw [List.take_append_drop]; exact hu)
        exact h1.2.2 y hy m[k] (by rw [List.drop_eq_getElem_cons (by omega)]; exact List.mem_cons_self)) (by simp)
      rw [List.append_nil] at h
      rw [h, List.take_succ_eq_append_getElem (by omega)]
  have h := this m.length (Nat.le_refl _)
  rwa [List.take_length] at h
theorem mkL_good {l m : List Lab} (h : mkL l = some m) : Good m := by
  obtain ⟨h1, h2, h3, _, h5, h6⟩ := mkL_small h
  unfold Good mkL
  rw [if_neg (by omega)]
  exact foldL_self h5 h6

/-- What is still to be read when the labels ahead of x have been: from x's name on. -/
def tailL (x : Lab) (r : List Lab) : List UInt8 := x.1.data.toList ++ 61 :: (quoteL x.2 ++ (itemsL 44 r ++ [125]))
theorem textM_cons (x : Lab) (r : List Lab) : textM (x :: r) = 123 :: tailL x r := by
  unfold textM tailL
  rw [itemsL]
  simp
/-- Where a reader stands. -/
def Inv (S : List UInt8) (l : List Lab) (rest : List UInt8) (ok : Bool) : Prop :=
  ∀ m, Good m → textM m = S → (ok = true → ∃ x r, m = l ++ x :: r ∧ rest = tailL x r) ∧ (ok = false → l = m ∧ rest = [125])
theorem inv_start (S : List UInt8) : Inv S [] (Lib.trimPrefix S [123]) (Lib.hasPrefix S [123]) := by
  intro m hg hm
  have hp := good_pos hg
  cases m with
  | nil => simp at hp
  | cons x r =>
    rw [textM_cons] at hm
    subst hm
    refine ⟨fun _ => ⟨x, r, rfl, ?_⟩, fun h => ?_⟩
    · simp [Lib.trimPrefix, Lib.hasPrefix, List.isPrefixOf]
    · simp [Lib.hasPrefix, List.isPrefixOf] at h
theorem inv_word {S : List UInt8} {l : List Lab} {rest : List UInt8} (h : Inv S l rest true) {m : List Lab} (hg : Good m) (hm : textM m = S) :
    ∃ x r, m = l ++ x :: r ∧ rest.takeWhile okB = x.1.data.toList ∧ rest.dropWhile okB = 61 :: (quoteL x.2 ++ (itemsL 44 r ++ [125])) := by
  obtain ⟨x, r, h1, h2⟩ := (h m hg hm).1 rfl
  have hx := good_ok hg x (by rw [h1]; simp)
  have hp : x.1.data.toList.all okB = true := by
    unfold labOK nameB plainB at hx
    simp only [Bool.and_eq_true] at hx
    exact hx.1.1.2
  have := word_take (r := quoteL x.2 ++ (itemsL 44 r ++ [125])) hp ok61
  rw [h2]
  exact ⟨x, r, h1, this.1, this.2⟩
theorem inv_no_eq {S : List UInt8} {l : List Lab} {rest : List UInt8} (h : Inv S l rest true) (hn : Lib.hasPrefix (rest.dropWhile okB) [61] = false) : ∀ m, Good m → textM m ≠ S := by
  intro m hg hm
  obtain ⟨x, r, _, _, h3⟩ := inv_word h hg hm
  rw [h3] at hn
  simp [Lib.hasPrefix, List.isPrefixOf] at hn
theorem inv_no_unq {S : List UInt8} {l : List Lab} {rest : List UInt8} (h : Inv S l rest true) (hn : unqS (Lib.trimPrefix (rest.dropWhile okB) [61]) = none) : ∀ m, Good m → textM m ≠ S := by
  intro m hg hm
  obtain ⟨x, r, _, _, h3⟩ := inv_word h hg hm
  rw [h3] at hn
  have e : Lib.trimPrefix (61 :: (quoteL x.2 ++ (itemsL 44 r ++ [125]))) [61] = quoteL x.2 ++ (itemsL 44 r ++ [125]) := by simp [Lib.trimPrefix, Lib.hasPrefix, List.isPrefixOf]
  rw [e, unqS_quote] at hn
  cases hn
theorem inv_step {S : List UInt8} {l : List Lab} {rest v r3 : List UInt8} (h : Inv S l rest true) (hn : unqS (Lib.trimPrefix (rest.dropWhile okB) [61]) = some (v, r3)) :
    Inv S (l ++ [(bs (rest.takeWhile okB), bs v)]) (Lib.trimPrefix r3 [44]) (Lib.hasPrefix r3 [44]) := by
  intro m hg hm
  obtain ⟨x, r, h1, h2, h3⟩ := inv_word h hg hm
  rw [h3] at hn
  have e : Lib.trimPrefix (61 :: (quoteL x.2 ++ (itemsL 44 r ++ [125]))) [61] = quoteL x.2 ++ (itemsL 44 r ++ [125]) := by simp [Lib.trimPrefix, Lib.hasPrefix, List.isPrefixOf]
  rw [e, unqS_quote] at hn
  injection hn with hn
  injection hn with hv hr
  subst hr
  have hx : (bs (rest.takeWhile okB), bs v) = x := by rw [h2, ← hv, bs_of, bs_of]
  rw [hx]
  cases r with
  | nil =>
    refine ⟨fun h => ?_, fun _ => ⟨h1.symm, ?_⟩⟩
    · simp [itemsL, Lib.hasPrefix, List.isPrefixOf] at h
    · simp [itemsL, Lib.trimPrefix, Lib.hasPrefix, List.isPrefixOf]
  | cons y r =>
    refine ⟨fun _ => ⟨y, r, by rw [h1]; simp, ?_⟩, fun h => ?_⟩
    · simp [itemsL, Lib.trimPrefix, Lib.hasPrefix, List.isPrefixOf, tailL]
    · simp [itemsL, Lib.hasPrefix, List.isPrefixOf] at h
theorem inv_bad_end {S : List UInt8} {l : List Lab} {rest : List UInt8} (h : Inv S l rest false) (hn : rest ≠ [125]) : ∀ m, Good m → textM m ≠ S := fun m hg hm => hn ((h m hg hm).2 rfl).2
theorem inv_end {S : List UInt8} {l : List Lab} {rest : List UInt8} (h : Inv S l rest false) : ∀ m, Good m → textM m = S → l = m := fun m hg hm => ((h m hg hm).2 rfl).1
/-- How a rest shrinks. -/
theorem unq_less : ∀ (n : Nat) (s acc v r : List UInt8), s.length ≤ n → unq s acc = some (v, r) → r.length < s.length := by
  intro n
  induction n with
  | zero =>
    intro s acc v r hs h
    have : s = [] := List.eq_nil_of_length_eq_zero (by omega)
    subst this
    rw [unq.eq_def] at h; cases h
  | succ n ih =>
    intro s acc v r hs h
    cases s with
    | nil => rw [unq.eq_def] at h; cases h
    | cons c t =>
      rw [unq.eq_def] at h
      dsimp only at h
      split at h
      · injection h with h; injection h with _ h; subst h; simp
      · split at h
        · split at h
          · rename_i a b r'
            split at h
            · cases h
            · have := ih r' _ v r (by simp at hs; omega) h
              simp; omega
          · cases h
        · have := ih t _ v r (by simp at hs; omega) h
          simp; omega
theorem unqS_less {s v r : List UInt8} (h : unqS s = some (v, r)) : r.length < s.length := by
  unfold unqS at h
  split at h
  · have := unq_less _ _ _ _ _ (Nat.le_refl _) h
    simp; omega
  · cases h
theorem trim_le (s p : List UInt8) : (Lib.trimPrefix s p).length ≤ s.length := by
  unfold Lib.trimPrefix; split <;> simp
theorem trim_less {s : List UInt8} {c : UInt8} (h : Lib.hasPrefix s [c] = true) : (Lib.trimPrefix s [c]).length < s.length := by
  unfold Lib.trimPrefix
  rw [if_pos h]
  cases s with
  | nil => simp [Lib.hasPrefix, List.isPrefixOf] at h
  | cons a s => simp
theorem drop_le (s : List UInt8) : (s.dropWhile okB).length ≤ s.length := (List.dropWhile_sublist _).length_le
end Go.Proofs.YtlicnadbccjbjaaDoor
