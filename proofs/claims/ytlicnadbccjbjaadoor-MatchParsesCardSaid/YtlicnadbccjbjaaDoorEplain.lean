/- Reading the text of matchers, in plain Lean. No conditions. -/
import Derived.Test.YtlicnadbccjbjaaDoorMtext
import Derived.Test.YtlicnadbccjbjaaDoorDplain
namespace Go.Proofs.YtlicnadbccjbjaaDoor
open Go.RowKit LB

theorem hp_two (a b : UInt8) (r : List UInt8) : Lib.hasPrefix (a :: b :: r) [a, b] = true ∧ Lib.trimPrefix (a :: b :: r) [a, b] = r := by
  have h : Lib.hasPrefix (a :: b :: r) [a, b] = true := by simp [Lib.hasPrefix, List.isPrefixOf]
  exact ⟨h, by unfold Lib.trimPrefix; rw [if_pos h]; rfl⟩
theorem hp_one (a : UInt8) (r : List UInt8) : Lib.hasPrefix (a :: r) [a] = true ∧ Lib.trimPrefix (a :: r) [a] = r := by
  have h : Lib.hasPrefix (a :: r) [a] = true := by simp [Lib.hasPrefix, List.isPrefixOf]
  exact ⟨h, by unfold Lib.trimPrefix; rw [if_pos h]; rfl⟩
theorem hp_head {a b : UInt8} {r p : List UInt8} (h : a ≠ b) : Lib.hasPrefix (a :: r) (b :: p) = false := by
  simp [Lib.hasPrefix, List.isPrefixOf]
  intro e; exact absurd e.symm h
theorem hp_nil (b : UInt8) (p : List UInt8) : Lib.hasPrefix [] (b :: p) = false := rfl
theorem tp_no {r p : List UInt8} (h : Lib.hasPrefix r p = false) : Lib.trimPrefix r p = r := by unfold Lib.trimPrefix; rw [if_neg (by rw [h]; decide)]

/-- The kind whose sign a rest begins with; 4: none. -/
def kindL (R : List UInt8) : Int := if Lib.hasPrefix R [61] = true then 1 else if Lib.hasPrefix R [33, 61] = true then 2 else if Lib.hasPrefix R [94, 61] = true then 3 else 4
/-- What stands behind a name: the kind, the value, the rest. -/
def valP (R : List UInt8) : Option (List UInt8 × List UInt8) := if kindL R = 4 then some ([], R) else unqS (Lib.trimPrefix R (signL (kindL R)))
/-- The text of matchers from one on. -/
def sepT : List Mat → List UInt8
  | [] => []
  | y :: q => 44 :: Lib.join ((y :: q).map mitem) [44]
theorem join_sep (x : Mat) (r : List Mat) : Lib.join ((x :: r).map mitem) [44] = mitem x ++ sepT r := by
  cases r with
  | nil => simp [join_one, sepT]
  | cons y q => rw [List.map_cons, List.map_cons, join_cons]; rfl
theorem sep_cases (r : List Mat) : (r = [] ∧ Lib.hasPrefix (sepT r) [44] = false ∧ Lib.trimPrefix (sepT r) [44] = []) ∨
    (∃ y q, r = y :: q ∧ Lib.hasPrefix (sepT r) [44] = true ∧ Lib.trimPrefix (sepT r) [44] = Lib.join ((y :: q).map mitem) [44]) := by
  cases r with
  | nil => exact .inl ⟨rfl, rfl, rfl⟩
  | cons y q => exact .inr ⟨y, q, rfl, hp_one _ _⟩
theorem sep_head (r : List Mat) : sepT r = [] ∨ ∃ t, sepT r = 44 :: t := by
  cases r with
  | nil => exact .inl rfl
  | cons y q => exact .inr ⟨_, rfl⟩
theorem word_take2 {x r : List UInt8} (h : x.all okB = true) (hc : r = [] ∨ ∃ c t, r = c :: t ∧ okB c = false) : (x ++ r).takeWhile okB = x ∧ (x ++ r).dropWhile okB = r := by
  rcases hc with rfl | ⟨c, t, rfl, hc⟩
  · rw [List.append_nil]
    have e : ∀ x : List UInt8, x.all okB = true → x.takeWhile okB = x ∧ x.dropWhile okB = [] := by
      intro x
      induction x with
      | nil => intro _; exact ⟨rfl, rfl⟩
      | cons a x ih =>
        intro h
        rw [List.all_cons, Bool.and_eq_true] at h
        have := ih h.2
        simp [h.1, this.1, this.2]
    exact e x h
  · exact word_take h hc
theorem ok_mat {x : Mat} (h : matOK x = true) : x.2.1.data.toList.all okB = true ∧ x.2.1.data.toList ≠ [] ∧ (x.1 = 1 ∨ x.1 = 2 ∨ x.1 = 3 ∨ (x.1 = 4 ∧ x.2.2 = ⟨#[]⟩)) := by
  unfold matOK nameB knownB plainB at h
  simp only [Bool.and_eq_true, decide_eq_true_eq, Bool.not_eq_true', Bool.and_eq_false_iff, decide_eq_false_iff_not] at h
  obtain ⟨⟨⟨h1, h2⟩, h3⟩, h4⟩ := h
  refine ⟨h2.2, ?_, ?_⟩
  · intro e
    have h5 := congrArg List.length e
    have h6 : x.2.1.data.toList.length = x.2.1.size := by simp
    have h7 := h2.1.1.1
    simp only [List.length_nil] at h5
    omega
  · by_cases h5 : x.1 = 4
    · refine .inr (.inr (.inr ⟨h5, ?_⟩))
      rcases h4 with h4 | h4
      · exact absurd h5 h4
      · have h6 : x.2.2.size = 0 := by omega
        exact (empty_iff x.2.2).1 h6
    · omega
/-- One matcher's text, and what is read of it. -/
theorem item_read {x : Mat} (h : matOK x = true) (r : List Mat) : (mitem x ++ sepT r).takeWhile okB = x.2.1.data.toList ∧ kindL ((mitem x ++ sepT r).dropWhile okB) = x.1 ∧
    valP ((mitem x ++ sepT r).dropWhile okB) = some (x.2.2.data.toList, sepT r) := by
  obtain ⟨h1, _, h3⟩ := ok_mat h
  have hs := sep_head r
  have n61 : okB 61 = false := by decide
  have n33 : okB 33 = false := by decide
  have n94 : okB 94 = false := by decide
  have n44 : okB 44 = false := by decide
  obtain ⟨kd, nm, vl⟩ := x
  dsimp only at h1 h3 ⊢
  rcases h3 with rfl | rfl | rfl | ⟨rfl, rfl⟩
  · have e : mitem (1, nm, vl) ++ sepT r = nm.data.toList ++ 61 :: (quoteL vl ++ sepT r) := by simp [mitem, signL]
    obtain ⟨p1, p2⟩ := word_take2 (r := 61 :: (quoteL vl ++ sepT r)) h1 (.inr ⟨_, _, rfl, n61⟩)
    rw [e, p1, p2]
    have k : kindL (61 :: (quoteL vl ++ sepT r)) = 1 := by unfold kindL; rw [if_pos (hp_one _ _).1]
    refine ⟨rfl, k, ?_⟩
    unfold valP
    rw [k, if_neg (by decide), show signL 1 = [61] from rfl, (hp_one _ _).2]
    exact unqS_quote vl _
  · have e : mitem (2, nm, vl) ++ sepT r = nm.data.toList ++ 33 :: 61 :: (quoteL vl ++ sepT r) := by simp [mitem, signL]
    obtain ⟨p1, p2⟩ := word_take2 (r := 33 :: 61 :: (quoteL vl ++ sepT r)) h1 (.inr ⟨_, _, rfl, n33⟩)
    rw [e, p1, p2]
    have k : kindL (33 :: 61 :: (quoteL vl ++ sepT r)) = 2 := by
      unfold kindL
      rw [if_neg (by rw [hp_head (by decide)]; decide), if_pos (hp_two _ _ _).1]
    refine ⟨rfl, k, ?_⟩
    unfold valP
    rw [k, if_neg (by decide), show signL 2 = [33, 61] from rfl, (hp_two _ _ _).2]
    exact unqS_quote vl _
  · have e : mitem (3, nm, vl) ++ sepT r = nm.data.toList ++ 94 :: 61 :: (quoteL vl ++ sepT r) := by simp [mitem, signL]
    obtain ⟨p1, p2⟩ := word_take2 (r := 94 :: 61 :: (quoteL vl ++ sepT r)) h1 (.inr ⟨_, _, rfl, n94⟩)
    rw [e, p1, p2]
    have k : kindL (94 :: 61 :: (quoteL vl ++ sepT r)) = 3 := by
      unfold kindL
      rw [if_neg (by rw [hp_head (by decide)]; decide), if_neg (by rw [hp_head (by decide)]; decide), if_pos (hp_two _ _ _).1]
    refine ⟨rfl, k, ?_⟩
    unfold valP
    rw [k, if_neg (by decide), show signL 3 = [94, 61] from rfl, (hp_two _ _ _).2]
    exact unqS_quote vl _
  · have e : mitem (4, nm, ⟨#[]⟩) ++ sepT r = nm.data.toList ++ sepT r := by simp [mitem]
    obtain ⟨p1, p2⟩ := word_take2 (r := sepT r) h1 (by rcases hs with h | ⟨t, h⟩; exact .inl h; exact .inr ⟨44, t, h, n44⟩)
    rw [e, p1, p2]
    have k : kindL (sepT r) = 4 := by
      unfold kindL
      rcases hs with h | ⟨t, h⟩
      · rw [h]; rfl
      · rw [h, if_neg (by rw [hp_head (by decide)]; decide), if_neg (by rw [hp_head (by decide)]; decide), if_neg (by rw [hp_head (by decide)]; decide)]
    refine ⟨rfl, k, ?_⟩
    unfold valP
    rw [if_pos k]

/-- Matchers that may be, and are some. -/
def GoodM (m : List Mat) : Prop := chkE m = 0 ∧ m ≠ []
theorem goodM_text {m : List Mat} (h : GoodM m) : mtextL m = Lib.join (m.map mitem) [44] := by
  unfold mtextL
  rw [if_neg (by rw [h.1]; simp), if_neg h.2]
/-- What is read when l are done and the rest is left. -/
def MInv (S : List UInt8) (l : List Mat) (rest : List UInt8) (more : Bool) : Prop :=
  ∀ m, GoodM m → mtextL m = S → (more = true → ∃ x r, m = l ++ x :: r ∧ rest = mitem x ++ sepT r) ∧ (more = false → l = m ∧ rest = [])
theorem minv_start (S : List UInt8) : MInv S [] S true := by
  intro m hg hm
  refine ⟨fun _ => ?_, fun h => by cases h⟩
  rw [goodM_text hg] at hm
  obtain ⟨_, hne⟩ := hg
  cases m with
  | nil => exact absurd rfl hne
  | cons x r => exact ⟨x, r, rfl, by rw [← hm, join_sep]⟩
theorem minv_item {S : List UInt8} {l : List Mat} {rest : List UInt8} (h : MInv S l rest true) {m : List Mat} (hg : GoodM m) (hm : mtextL m = S) :
    ∃ x r, m = l ++ x :: r ∧ rest.takeWhile okB = x.2.1.data.toList ∧ kindL (rest.dropWhile okB) = x.1 ∧ valP (rest.dropWhile okB) = some (x.2.2.data.toList, sepT r) := by
  obtain ⟨x, r, h1, h2⟩ := (h m hg hm).1 rfl
  have hx := (chk_mem hg.1).2 x (by rw [h1]; simp)
  obtain ⟨p1, p2, p3⟩ := item_read hx r
  rw [← h2] at p1 p2 p3
  exact ⟨x, r, h1, p1, p2, p3⟩
theorem minv_none {S : List UInt8} {l : List Mat} {rest : List UInt8} (h : MInv S l rest true) (hn : valP (rest.dropWhile okB) = none) : ∀ m, GoodM m → mtextL m ≠ S := by
  intro m hg hm
  obtain ⟨x, r, _, _, _, p3⟩ := minv_item h hg hm
  rw [hn] at p3; cases p3
theorem minv_step {S : List UInt8} {l : List Mat} {rest v R : List UInt8} (h : MInv S l rest true) (hn : valP (rest.dropWhile okB) = some (v, R)) :
    MInv S (l ++ [(kindL (rest.dropWhile okB), bs (rest.takeWhile okB), bs v)]) (Lib.trimPrefix R [44]) (Lib.hasPrefix R [44]) := by
  intro m hg hm
  obtain ⟨x, r, h1, p1, p2, p3⟩ := minv_item h hg hm
  rw [hn] at p3
  injection p3 with p3
  injection p3 with p4 p5
  subst p4; subst p5
  rw [p1, p2, bs_of, bs_of]
  have e : l ++ [(x.1, x.2.1, x.2.2)] = l ++ [x] := rfl
  rw [e]
  rcases sep_cases r with ⟨rfl, q1, q2⟩ | ⟨y, q, rfl, q1, q2⟩
  · rw [q1, q2]
    exact ⟨(fun h => by cases h), fun _ => ⟨h1.symm, rfl⟩⟩
  · rw [q1, q2]
    exact ⟨fun _ => ⟨y, q, by rw [h1]; simp, join_sep y q⟩, fun h => by cases h⟩
theorem minv_end {S : List UInt8} {l : List Mat} {rest : List UInt8} (h : MInv S l rest false) : ∀ m, GoodM m → mtextL m = S → l = m := fun m hg hm => ((h m hg hm).2 rfl).1
theorem minv_rest {S : List UInt8} {l : List Mat} {rest : List UInt8} (h : MInv S l rest false) (hr : rest ≠ []) : ∀ m, GoodM m → mtextL m ≠ S := fun m hg hm => hr ((h m hg hm).2 rfl).2
theorem minv_long {S : List UInt8} {l : List Mat} {rest : List UInt8} (h : MInv S l rest true) (hl : 8 < l.length + 1) : ∀ m, GoodM m → mtextL m ≠ S := by
  intro m hg hm
  obtain ⟨x, r, h1, _⟩ := (h m hg hm).1 rfl
  have := (chk_mem hg.1).1
  rw [h1, List.length_append] at this
  simp at this
  omega
/-- A text that is one of matchers: which. -/
theorem mtext_good {l : List Mat} {S : List UInt8} (h : mtextL l = S) (hS : S ≠ []) : chkE l = 0 := by
  unfold mtextL at h
  split at h
  · exact absurd h.symm hS
  · rename_i h1; simpa using h1
theorem mtext_star {m : List Mat} (h : chkE m = 0) : mtextL m = [42] ↔ m = [] := by
  constructor
  · intro hm
    cases m with
    | nil => rfl
    | cons x r =>
      have hx := (chk_mem h).2 x List.mem_cons_self
      rw [goodM_text ⟨h, by simp⟩, join_sep] at hm
      obtain ⟨h1, h2, _⟩ := ok_mat hx
      obtain ⟨kd, nm, vl⟩ := x
      dsimp only at h1 h2
      cases hn : nm.data.toList with
      | nil => exact absurd hn h2
      | cons a t =>
        rw [hn, List.all_cons, Bool.and_eq_true] at h1
        have : ∃ q, mitem (kd, nm, vl) ++ sepT r = a :: q := by
          unfold mitem
          dsimp only
          split
          · exact ⟨_, by rw [hn]; rfl⟩
          · exact ⟨_, by rw [hn]; rfl⟩
        obtain ⟨q, hq⟩ := this
        rw [hq] at hm
        injection hm with hm _
        rw [hm] at h1
        exact absurd h1.1 (by decide)
  · rintro rfl; rfl
theorem mtext_ne {m : List Mat} (h : chkE m = 0) : mtextL m ≠ [] := by
  by_cases hm : m = []
  · subst hm; decide
  · intro e
    cases m with
    | nil => exact hm rfl
    | cons x r =>
      have hx := (chk_mem h).2 x List.mem_cons_self
      rw [goodM_text ⟨h, by simp⟩, join_sep] at e
      obtain ⟨_, h2, _⟩ := ok_mat hx
      have h3 := (List.append_eq_nil_iff.1 e).1
      unfold mitem at h3
      split at h3
      · exact h2 h3
      · exact h2 (List.append_eq_nil_iff.1 h3).1
end Go.Proofs.YtlicnadbccjbjaaDoor
