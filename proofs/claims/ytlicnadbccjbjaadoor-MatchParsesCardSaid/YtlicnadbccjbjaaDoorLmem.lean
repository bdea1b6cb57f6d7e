/- Words for memory that holds labels: a slice of pairs of texts that reads as a list, a row of them of one's own. No conditions. -/
import Derived.Test.YtlicnadbccjbjaaDoorWords
import Derived.Test.YtlicnadbccjbjaaDoorPlain
namespace Go.Proofs.YtlicnadbccjbjaaDoor
open Go.RowKit LB

/-- The cells of labels. -/
def lv (l : List Lab) : List Value := l.flatMap fun p => [.string p.1, .string p.2]
theorem lv_len (l : List Lab) : (lv l).length = 2 * l.length := by
  induction l with
  | nil => rfl
  | cons a l ih => simp only [lv, List.flatMap_cons, List.length_append, List.length_cons, List.length_nil]; unfold lv at ih; omega
theorem lv_at {l : List Lab} {k : Nat} {x : Lab} (hk : l[k]? = some x) : (lv l)[2 * k]? = some (.string x.1) ∧ (lv l)[2 * k + 1]? = some (.string x.2) := by
  induction l generalizing k with
  | nil => simp at hk
  | cons a l ih =>
    have e : lv (a :: l) = .string a.1 :: .string a.2 :: lv l := rfl
    cases k with
    | zero =>
      simp at hk
      subst hk
      exact ⟨rfl, rfl⟩
    | succ k =>
      have := ih (k := k) (by simpa using hk)
      rw [e, show 2 * (k + 1) = 2 * k + 2 by omega, show 2 * k + 2 + 1 = 2 * k + 1 + 2 by omega]
      simpa [List.getElem?_cons_succ] using this
theorem lv_append (l m : List Lab) : lv (l ++ m) = lv l ++ lv m := by simp [lv]
theorem lv_one (l : List Lab) : ∀ u ∈ lv l, u.oneCell' = true := by
  intro u hu
  simp only [lv, List.mem_flatMap] at hu
  obtain ⟨p, _, hu⟩ := hu
  simp at hu
  rcases hu with rfl | rfl <;> rfl
/-- One label is turned. -/
theorem lv_set {l : List Lab} {k : Nat} {x : Lab} (hk : k < l.length) : ((lv l).set (2 * k) (.string x.1)).set (2 * k + 1) (.string x.2) = lv (l.set k x) := by
  induction l generalizing k with
  | nil => simp at hk
  | cons a l ih =>
    have e : lv (a :: l) = .string a.1 :: .string a.2 :: lv l := rfl
    cases k with
    | zero => rfl
    | succ k =>
      have := ih (k := k) (by simpa using hk)
      rw [e, show 2 * (k + 1) = 2 * k + 1 + 1 by omega, show 2 * k + 1 + 1 + 1 = 2 * k + 1 + 1 + 1 by omega, List.set_cons_succ, List.set_cons_succ, List.set_cons_succ, List.set_cons_succ, this]
      rfl

/-- A slice of labels (nil let in) reads as l, below block B. -/
def Lv (w : World) (B : Nat) (A : Option Addr) (n : Nat) (l : List Lab) : Prop :=
  l.length = n ∧ (0 < n → ∃ b off, A = some ⟨b, off, none⟩ ∧ b < B ∧ ∀ j u, (lv l)[j]? = some u → w.cell? ⟨b, off + j, none⟩ = some u)
section
variable {w w' : World} {S : Nat → Prop} {B B' : Nat} {A : Option Addr} {n : Nat} {l : List Lab}
theorem Lv.keep (h : Lv w B A n l) (hk : ∀ x, x < B → w'.heap[x]? = w.heap[x]?) : Lv w' B A n l :=
  ⟨h.1, fun hn => by
    obtain ⟨b, off, e, hb, hc⟩ := h.2 hn
    exact ⟨b, off, e, hb, fun j u hu => (World.cell?_of_block (w := w) (a := ⟨b, off + j, none⟩) (hk b hb)).trans (hc j u hu)⟩⟩
theorem Lv.below (h : Lv w B A n l) (hb : Below B w w') : Lv w' B A n l := h.keep fun x hx => hb.block x hx
theorem Lv.more (h : Lv w B A n l) (hB : B ≤ B') : Lv w B' A n l :=
  ⟨h.1, fun hn => by
    obtain ⟨b, off, e, hb, hc⟩ := h.2 hn
    exact ⟨b, off, e, by omega, hc⟩⟩
theorem Lv.drewN (h : Lv w B A n l) (k : Nat) : Lv (w.drewN k) B A n l := h
theorem Lv.at2 (h : Lv w B A n l) {k : Nat} (hk : k < n) : ∃ b off, A = some ⟨b, off, none⟩ ∧ b < B ∧ ∀ j x, l[j]? = some x → w.cell? ⟨b, off + j * 2, none⟩ = some (.string x.1) ∧ w.cell? ⟨b, off + j * 2 + 1, none⟩ = some (.string x.2) := by
  obtain ⟨b, off, e, hb, hc⟩ := h.2 (by omega)
  refine ⟨b, off, e, hb, fun j x hj => ?_⟩
  obtain ⟨h1, h2⟩ := lv_at hj
  rw [Nat.mul_comm j 2, Nat.add_assoc]
  exact ⟨hc _ _ h1, hc _ _ h2⟩
theorem Lv.of_own {base : Nat} {e : TypeId} {v : Value} (h : w.ownsRow base e 2 v n (lv l)) : ∃ A c, v = .slice A n c ∧ Lv w w.heap.size A n l ∧ n ≤ c ∧ c ≤ maxLen := by
  have hl : l.length = n := by have := h.1; rw [lv_len] at this; omega
  rcases h.2 with ⟨rfl, rfl⟩ | ⟨g', cap, cur, rfl, hb, hgg, r1, r2, r3, r4⟩
  · exact ⟨none, 0, rfl, ⟨hl, fun h => absurd h (by omega)⟩, Nat.le_refl _, by unfold maxLen; omega⟩
  · refine ⟨_, _, rfl, ⟨hl, fun _ => ⟨g', 0, rfl, (Array.getElem?_eq_some_iff.1 hgg).1, fun j u hu => ?_⟩⟩, r1, r2⟩
    have hh := h.cells (g := g') rfl j u hu
    have e : (⟨g', 0, none⟩ : Addr).add j = ⟨g', 0 + j, none⟩ := by unfold Addr.add; split <;> simp_all
    rw [← e]; exact hh
theorem Lv.none_zero (h : Lv w B none n l) : n = 0 ∧ l = [] := by
  have hn0 : n = 0 := by
    rcases Nat.eq_zero_or_pos n with h0 | h0
    · exact h0
    · obtain ⟨_, _, e, _⟩ := h.2 h0; cases e
  subst hn0
  exact ⟨rfl, List.eq_nil_of_length_eq_zero h.1⟩
theorem Lv.news {ad : Addr} (h : Lv w B (some ad) n l) : ∀ j u, (lv l)[j]? = some u → w.cell? (ad.add j) = some u := by
  intro j u hu
  have hj := (List.getElem?_eq_some_iff.1 hu).1
  rw [lv_len, h.1] at hj
  obtain ⟨b', off', e, _, hc⟩ := h.2 (by omega)
  injection e with e
  subst e
  have e : (⟨b', off', none⟩ : Addr).add j = ⟨b', off' + j, none⟩ := by unfold Addr.add; split <;> simp_all
  rw [e]; exact hc j u hu
end
/-- A store into an owned row, whatever its elements' size. -/
theorem own_setN {w : World} {base r cap sz : Nat} {e : TypeId} {n : Nat} {xs : List Value} (h : w.ownsRow base e sz (.slice (some ⟨r, 0, none⟩) n cap) n xs) (i : Nat) (u : Value) : (w.setCell ⟨r, i, none⟩ u).ownsRow base e sz (.slice (some ⟨r, 0, none⟩) n cap) n (xs.set i u) := by
  refine ⟨by rw [List.length_set]; exact h.1, ?_⟩
  rcases h.2 with ⟨h0, _⟩ | ⟨g', cap', cur, hv, hb, hgg, r1, r2, r3, r4⟩
  · cases h0
  · injection hv with hv hv1 hv2
    injection hv with hv
    injection hv with hv
    subst hv; subst hv2
    refine .inr ⟨r, cap, cur.setIfInBounds i u, rfl, hb, (Arr.set hgg i u), r1, r2, by simpa using r3, ?_⟩
    rw [Array.toList_setIfInBounds, ← r4, List.take_set]
theorem own_cellN {w : World} {base r cap sz : Nat} {e : TypeId} {n : Nat} {xs : List Value} (h : w.ownsRow base e sz (.slice (some ⟨r, 0, none⟩) n cap) n xs) {i : Nat} {u : Value} (hu : xs[i]? = some u) : w.cell? ⟨r, i, none⟩ = some u := by
  have := h.cells (g := r) rfl i u hu
  have e : (⟨r, 0, none⟩ : Addr).add i = ⟨r, i, none⟩ := by unfold Addr.add; split <;> simp_all
  rwa [e] at this
/-- A label of an owned row. -/
theorem own_lab {w : World} {base r cap : Nat} {e : TypeId} {n : Nat} {l : List Lab} (h : w.ownsRow base e 2 (.slice (some ⟨r, 0, none⟩) n cap) n (lv l)) {k : Nat} {x : Lab} (hk : l[k]? = some x) : w.cell? ⟨r, k * 2, none⟩ = some (.string x.1) ∧ w.cell? ⟨r, k * 2 + 1, none⟩ = some (.string x.2) := by
  obtain ⟨h1, h2⟩ := lv_at hk
  rw [Nat.mul_comm k 2]
  exact ⟨own_cellN h h1, own_cellN h h2⟩
/-- A label of an owned row is turned. -/
theorem own_setL {w : World} {base r cap : Nat} {e : TypeId} {n : Nat} {l : List Lab} (h : w.ownsRow base e 2 (.slice (some ⟨r, 0, none⟩) n cap) n (lv l)) {k : Nat} (x : Lab) (hk : k < l.length) :
    ((w.setCell ⟨r, k * 2, none⟩ (.string x.1)).setCell ⟨r, k * 2 + 1, none⟩ (.string x.2)).ownsRow base e 2 (.slice (some ⟨r, 0, none⟩) n cap) n (lv (l.set k x)) := by
  rw [← lv_set hk, Nat.mul_comm k 2]
  exact own_setN (own_setN h _ _) _ _
end Go.Proofs.YtlicnadbccjbjaaDoor
