/- Matchers, in plain Lean: which may be, which labels they fit, their text; and memory that holds them. No conditions. -/
import Derived.Test.YtlicnadbccjbjaaDoorText
namespace Go.Proofs.YtlicnadbccjbjaaDoor
open Go.RowKit LB

abbrev Mat := Int × ByteArray × ByteArray
def knownB (k : Int) : Bool := decide (1 ≤ k) && decide (k ≤ 4)
def matOK (m : Mat) : Bool := knownB m.1 && nameB m.2.1 && decide (m.2.2.size ≤ 64) && !(decide (m.1 = 4) && decide (m.2.2.size ≠ 0))
/-- What Check answers. -/
def chkE (l : List Mat) : Int := if 8 < l.length then 2 else if l.all matOK = true then 0 else 20
/-- The value of the first label of a name. -/
def valL : List Lab → ByteArray → Option ByteArray
  | [], _ => none
  | x :: r, n => if x.1 = n then some x.2 else valL r n
def fit1 (of : List Lab) (m : Mat) : Bool :=
  if m.1 = 1 then decide ((valL of m.2.1).getD ⟨#[]⟩ = m.2.2) else if m.1 = 2 then !decide ((valL of m.2.1).getD ⟨#[]⟩ = m.2.2)
  else if m.1 = 3 then Lib.hasPrefix ((valL of m.2.1).getD ⟨#[]⟩).data.toList m.2.2.data.toList else (valL of m.2.1).isSome
def fitsB (l : List Mat) (of : List Lab) : Bool := decide (chkE l = 0) && l.all (fit1 of)

theorem chk_long {l : List Mat} (h : 8 < l.length) : chkE l = 2 := by unfold chkE; rw [if_pos h]
theorem chk_bad {l : List Mat} {k : Nat} {x : Mat} (h : ¬ 8 < l.length) (hx : l[k]? = some x) (hb : matOK x = false) : chkE l = 20 := by
  unfold chkE
  rw [if_neg h, if_neg]
  intro ha
  have := List.all_eq_true.1 ha x (List.mem_of_getElem? hx)
  rw [hb] at this; cases this
theorem chk_ok {l : List Mat} (h : ¬ 8 < l.length) (ha : ∀ j x, j < l.length → l[j]? = some x → matOK x = true) : chkE l = 0 := by
  unfold chkE
  rw [if_neg h, if_pos]
  rw [List.all_eq_true]
  intro x hx
  obtain ⟨j, hj⟩ := List.getElem?_of_mem hx
  exact ha j x (List.getElem?_eq_some_iff.1 hj).1 hj
theorem chk_mem {l : List Mat} (h : chkE l = 0) : l.length ≤ 8 ∧ ∀ x ∈ l, matOK x = true := by
  unfold chkE at h
  split at h
  · cases h
  · split at h
    · rename_i h1 h2
      exact ⟨by omega, List.all_eq_true.1 h2⟩
    · cases h
theorem val_step {l : List Lab} {k : Nat} {x : Lab} {n : ByteArray} (hx : l[k]? = some x) : valL (l.drop k) n = if x.1 = n then some x.2 else valL (l.drop (k + 1)) n := by
  obtain ⟨hk, he⟩ := List.getElem?_eq_some_iff.1 hx
  rw [List.drop_eq_getElem_cons hk, he, valL]

/-- The cells of matchers. -/
def mv (l : List Mat) : List Value := l.flatMap fun p => [.int .i64 p.1, .string p.2.1, .string p.2.2]
theorem mv_len (l : List Mat) : (mv l).length = 3 * l.length := by
  induction l with
  | nil => rfl
  | cons a l ih => simp only [mv, List.flatMap_cons, List.length_append, List.length_cons, List.length_nil]; unfold mv at ih; omega
theorem mv_at {l : List Mat} {k : Nat} {x : Mat} (hk : l[k]? = some x) : (mv l)[3 * k]? = some (.int .i64 x.1) ∧ (mv l)[3 * k + 1]? = some (.string x.2.1) ∧ (mv l)[3 * k + 2]? = some (.string x.2.2) := by
  induction l generalizing k with
  | nil => simp at hk
  | cons a l ih =>
    have e : mv (a :: l) = .int .i64 a.1 :: .string a.2.1 :: .string a.2.2 :: mv l := rfl
    cases k with
    | zero =>
      simp at hk
      subst hk
      exact ⟨rfl, rfl, rfl⟩
    | succ k =>
      have := ih (k := k) (by simpa using hk)
      rw [e, show 3 * (k + 1) = 3 * k + 3 by omega, show 3 * k + 3 + 1 = 3 * k + 1 + 3 by omega, show 3 * k + 3 + 2 = 3 * k + 2 + 3 by omega]
      simpa [List.getElem?_cons_succ] using this
theorem mv_append (l m : List Mat) : mv (l ++ m) = mv l ++ mv m := by simp [mv]
theorem mv_one (l : List Mat) : ∀ u ∈ mv l, u.oneCell' = true := by
  intro u hu
  simp only [mv, List.mem_flatMap] at hu
  obtain ⟨p, _, hu⟩ := hu
  simp at hu
  rcases hu with rfl | rfl | rfl <;> rfl
/-- A slice of matchers (nil let in) reads as l, below block B. -/
def Mv (w : World) (B : Nat) (A : Option Addr) (n : Nat) (l : List Mat) : Prop :=
  l.length = n ∧ (0 < n → ∃ b off, A = some ⟨b, off, none⟩ ∧ b < B ∧ ∀ j u, (mv l)[j]? = some u → w.cell? ⟨b, off + j, none⟩ = some u)
section
variable {w w' : World} {B B' : Nat} {A : Option Addr} {n : Nat} {l : List Mat}
theorem Mv.keep (h : Mv w B A n l) (hk : ∀ x, x < B → w'.heap[x]? = w.heap[x]?) : Mv w' B A n l :=
  ⟨h.1, fun hn => by
    obtain ⟨b, off, e, hb, hc⟩ := h.2 hn
    exact ⟨b, off, e, hb, fun j u hu => (World.cell?_of_block (w := w) (a := ⟨b, off + j, none⟩) (hk b hb)).trans (hc j u hu)⟩⟩
theorem Mv.below (h : Mv w B A n l) (hb : Below B w w') : Mv w' B A n l := h.keep fun x hx => hb.block x hx
theorem Mv.more (h : Mv w B A n l) (hB : B ≤ B') : Mv w B' A n l :=
  ⟨h.1, fun hn => by
    obtain ⟨b, off, e, hb, hc⟩ := h.2 hn
    exact ⟨b, off, e, by omega, hc⟩⟩
theorem Mv.drewN (h : Mv w B A n l) (k : Nat) : Mv (w.drewN k) B A n l := h
theorem Mv.at3 (h : Mv w B A n l) {k : Nat} (hk : k < n) : ∃ b off, A = some ⟨b, off, none⟩ ∧ b < B ∧ ∀ j x, l[j]? = some x → w.cell? ⟨b, off + j * 3, none⟩ = some (.int .i64 x.1) ∧ w.cell? ⟨b, off + j * 3 + 1, none⟩ = some (.string x.2.1) ∧ w.cell? ⟨b, off + j * 3 + 2, none⟩ = some (.string x.2.2) := by
  obtain ⟨b, off, e, hb, hc⟩ := h.2 (by omega)
  refine ⟨b, off, e, hb, fun j x hj => ?_⟩
  obtain ⟨h1, h2, h3⟩ := mv_at hj
  rw [Nat.mul_comm j 3, Nat.add_assoc, Nat.add_assoc]
  exact ⟨hc _ _ h1, hc _ _ h2, hc _ _ h3⟩
theorem Mv.of_own {base : Nat} {e : TypeId} {v : Value} (h : w.ownsRow base e 3 v n (mv l)) : ∃ A c, v = .slice A n c ∧ Mv w w.heap.size A n l ∧ n ≤ c ∧ c ≤ maxLen := by
  have hl : l.length = n := by have := h.1; rw [mv_len] at this; omega
  rcases h.2 with ⟨rfl, rfl⟩ | ⟨g', cap, cur, rfl, hb, hgg, r1, r2, r3, r4⟩
  · exact ⟨none, 0, rfl, ⟨hl, fun h => absurd h (by omega)⟩, Nat.le_refl _, by unfold maxLen; omega⟩
  · refine ⟨_, _, rfl, ⟨hl, fun _ => ⟨g', 0, rfl, (Array.getElem?_eq_some_iff.1 hgg).1, fun j u hu => ?_⟩⟩, r1, r2⟩
    have hh := h.cells (g := g') rfl j u hu
    have e : (⟨g', 0, none⟩ : Addr).add j = ⟨g', 0 + j, none⟩ := by unfold Addr.add; split <;> simp_all
    rw [← e]; exact hh
theorem mv_lit (w : World) (t : TypeId) (l : List Mat) (h : 0 < l.length) : Mv (w.alloc (.cells (mv l).toArray t)) (w.heap.size + 1) (some ⟨w.heap.size, 0, none⟩) l.length l := by
  refine ⟨rfl, fun _ => ⟨w.heap.size, 0, rfl, by omega, fun j u hu => ?_⟩⟩
  rw [Nat.zero_add]
  exact (Arr.new w t (mv l).toArray).at_ (by simpa using hu)
end
end Go.Proofs.YtlicnadbccjbjaaDoor
