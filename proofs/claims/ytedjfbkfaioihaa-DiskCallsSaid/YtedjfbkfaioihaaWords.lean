/- Words for memory: a block that is known whole, what a call leaves as it was, a slice that reads as a list. No conditions. -/
import Derived.WalkKit
import Derived.Deep.Draws
import Derived.Lib.Hide
namespace Go.Proofs.Ytedjfbkfaioihaa
open Go.RowKit

/-- Block g is just the cells cs, of element type t, none of them frozen. -/
def Arr (w : World) (g : Nat) (t : TypeId) (cs : Array Value) : Prop := w.heap[g]? = some (.cells cs t (0, 0))

/-- Of the blocks that were there, those outside S are as they were. -/
structure Kp (S : Nat → Prop) (w w' : World) : Prop where
  os : w'.os = w.os
  tape : w'.tape = w.tape
  output : w'.output = w.output
  size : w.heap.size ≤ w'.heap.size
  block : ∀ k, k < w.heap.size → ¬ S k → w'.heap[k]? = w.heap[k]?

section
variable {w w' w'' : World} {S T : Nat → Prop} {g : Nat} {t : TypeId} {cs : Array Value}
theorem Kp.refl (S : Nat → Prop) (w : World) : Kp S w w := ⟨rfl, rfl, rfl, Nat.le_refl _, fun _ _ _ => rfl⟩
theorem Kp.trans (h : Kp S w w') (k : Kp T w' w'') (hT : ∀ x, x < w.heap.size → T x → S x) : Kp S w w'' :=
  ⟨k.os.trans h.os, k.tape.trans h.tape, k.output.trans h.output, Nat.le_trans h.size k.size,
    fun x hx hs => (k.block x (Nat.lt_of_lt_of_le hx h.size) (fun ht => hs (hT x hx ht))).trans (h.block x hx hs)⟩
theorem Kp.mono (h : Kp S w w') (hT : ∀ x, x < w.heap.size → S x → T x) : Kp T w w' := ⟨h.os, h.tape, h.output, h.size, fun x hx ht => h.block x hx (fun hs => ht (hT x hx hs))⟩
theorem Kp.drew (h : Kp S w w') : Kp S w w'.drew := ⟨h.os, h.tape, h.output, h.size, h.block⟩
theorem Kp.drewN (h : Kp S w w') (n : Nat) : Kp S w (w'.drewN n) := ⟨h.os, h.tape, h.output, h.size, h.block⟩
theorem Kp.alloc (h : Kp S w w') (o : Obj) : Kp S w (w'.alloc o) :=
  ⟨h.os, h.tape, h.output, Nat.le_trans h.size (by simp), fun x hx hs => (Below.heap_alloc w' o x (Nat.lt_of_lt_of_le hx h.size)).trans (h.block x hx hs)⟩
theorem Kp.setCell (h : Kp S w w') {p : Addr} (hp : S p.block ∨ w.heap.size ≤ p.block) (u : Value) : Kp S w (w'.setCell p u) :=
  ⟨h.os, h.tape, h.output, by simpa [World.setCell] using h.size, fun x hx hs => (Below.heap_setCell w' p u x (by
    rintro rfl
    rcases hp with hp | hp
    · exact hs hp
    · omega)).trans (h.block x hx hs)⟩
theorem Kp.grown {row : Option Nat} (h : Kp S w w') (hg : w'.grownBy w'' row) (hr : ∀ x, x < w.heap.size → row = some x → S x) : Kp S w w'' :=
  ⟨hg.os.trans h.os, hg.tape.trans h.tape, hg.output.trans h.output, Nat.le_trans h.size hg.size,
    fun x hx hs => (hg.block x (Nat.lt_of_lt_of_le hx h.size) (fun e => hs (hr x hx e.symm))).trans (h.block x hx hs)⟩
theorem Kp.of_below {B : Nat} (h : Below B w w') : Kp (fun x => B ≤ x) w w' := ⟨h.os, h.tape, h.output, h.size, fun x _ hs => h.block x (by omega)⟩
theorem Kp.none_of_below (h : Below w.heap.size w w') : Kp S w w' := ⟨h.os, h.tape, h.output, h.size, fun x hx _ => h.block x hx⟩
theorem Kp.below {B : Nat} (h : Kp S w w') (hB : B ≤ w.heap.size) (hS : ∀ x, x < B → ¬ S x) : Below B w w' := ⟨h.os, h.tape, h.output, h.size, fun x hx => h.block x (by omega) (hS x hx)⟩

theorem Arr.lt (h : Arr w g t cs) : g < w.heap.size := by
  rcases Nat.lt_or_ge g w.heap.size with h1 | h1
  · exact h1
  · unfold Arr at h; rw [Array.getElem?_eq_none h1] at h; cases h
theorem Arr.cell (h : Arr w g t cs) (i : Nat) : w.cell? ⟨g, i, none⟩ = cs[i]? := cell_of_row w g i cs t (0, 0) h
theorem Arr.at_ (h : Arr w g t cs) {i : Nat} {v : Value} (hv : cs[i]? = some v) : w.cell? ⟨g, i, none⟩ = some v := (h.cell i).trans hv
theorem Arr.frozen (h : Arr w g t cs) (i : Nat) : w.frozen? ⟨g, i, none⟩ = false := by
  unfold Arr at h
  simp [World.frozen?, h]
theorem Arr.new (w : World) (t : TypeId) (cs : Array Value) : Arr (w.alloc (.cells cs t)) w.heap.size t cs := heap_alloc_new w _
theorem Arr.drew (h : Arr w g t cs) : Arr w.drew g t cs := h
theorem Arr.drewN (h : Arr w g t cs) (n : Nat) : Arr (w.drewN n) g t cs := h
theorem Arr.alloc (h : Arr w g t cs) (o : Obj) : Arr (w.alloc o) g t cs := (Below.heap_alloc w o g h.lt).trans h
theorem Arr.set (h : Arr w g t cs) (i : Nat) (u : Value) : Arr (w.setCell ⟨g, i, none⟩ u) g t (cs.setIfInBounds i u) := by
  unfold Arr at h ⊢
  simp [World.setCell, Array.getElem?_modify, h]
theorem Arr.far (h : Arr w g t cs) {p : Addr} (hp : p.block ≠ g) (u : Value) : Arr (w.setCell p u) g t cs := (Below.heap_setCell w p u g (Ne.symm hp)).trans h
theorem Arr.kp (h : Arr w g t cs) (k : Kp S w w') (hs : ¬ S g) : Arr w' g t cs := (k.block g h.lt hs).trans h
theorem Arr.grown {row : Option Nat} (h : Arr w g t cs) (k : w.grownBy w' row) (hs : row ≠ some g) : Arr w' g t cs := (k.block g h.lt (Ne.symm hs)).trans h
theorem Arr.below {B : Nat} (h : Arr w g t cs) (k : Below B w w') (hs : g < B) : Arr w' g t cs := (k.block g hs).trans h
theorem Arr.ne {g' : Nat} {t' : TypeId} {cs' : Array Value} (h : Arr w g t cs) (h' : Arr w g' t' cs') (hne : t ≠ t') : g ≠ g' := by
  rintro rfl
  unfold Arr at h h'
  rw [h] at h'
  injection h' with h'
  injection h' with _ ht
  exact hne ht

theorem own_ne {base : Nat} {e : TypeId} {size n : Nat} {v : Value} {xs : List Value} (h : w.ownsRow base e size v n xs) (ha : Arr w g t cs) (hne : e ≠ t) : v.ownBlock ≠ some g := by
  rcases h.2 with ⟨rfl, _⟩ | ⟨g', cap, cur, rfl, _, hh, _⟩
  · simp [Value.ownBlock]
  · intro he
    have : g' = g := by simpa [Value.ownBlock] using he
    subst this
    exact Arr.ne (t := e) hh ha hne rfl
theorem own_kp {base : Nat} {e : TypeId} {size n : Nat} {v : Value} {xs : List Value} (h : w.ownsRow base e size v n xs) (k : Kp S w w') (hs : ∀ x, v.ownBlock = some x → ¬ S x) : w'.ownsRow base e size v n xs := by
  refine ⟨h.1, ?_⟩
  rcases h.2 with hn | ⟨g', cap, cur, rfl, hb, hgg, rest⟩
  · exact .inl hn
  · exact .inr ⟨g', cap, cur, rfl, hb, (k.block g' (Array.getElem?_eq_some_iff.1 hgg).1 (hs g' rfl)).trans hgg, rest⟩
theorem own_far {base : Nat} {e : TypeId} {size n : Nat} {v : Value} {xs : List Value} (h : w.ownsRow base e size v n xs) {p : Addr} (hp : v.ownBlock ≠ some p.block) (u : Value) : (w.setCell p u).ownsRow base e size v n xs := by
  refine ⟨h.1, ?_⟩
  rcases h.2 with hn | ⟨g', cap, cur, rfl, hb, hgg, rest⟩
  · exact .inl hn
  · refine .inr ⟨g', cap, cur, rfl, hb, (Below.heap_setCell w p u g' (fun e => hp ?_)).trans hgg, rest⟩
    rw [← e]; rfl
theorem own_base {base base' : Nat} {e : TypeId} {size n : Nat} {v : Value} {xs : List Value} (h : w.ownsRow base e size v n xs) (hb : base' ≤ base) : w.ownsRow base' e size v n xs := by
  refine ⟨h.1, ?_⟩
  rcases h.2 with hn | ⟨g', cap, cur, rfl, hb', rest⟩
  · exact .inl hn
  · exact .inr ⟨g', cap, cur, rfl, by omega, rest⟩
/-- What is owned and is not empty lies at the head of a block. -/
theorem own_form {base : Nat} {e : TypeId} {size n : Nat} {v : Value} {xs : List Value} (h : w.ownsRow base e size v n xs) (hn : 0 < n) : ∃ r cap cur, v = .slice (some ⟨r, 0, none⟩) n cap ∧ base ≤ r ∧ Arr w r e cur ∧ n ≤ cap ∧ cap ≤ maxLen ∧ cur.size = cap * size ∧ cur.toList.take (n * size) = xs := by
  rcases h.2 with ⟨_, h0⟩ | ⟨g', cap, cur, rfl, hb, hgg, r1, r2, r3, r4⟩
  · omega
  · exact ⟨g', cap, cur, rfl, hb, hgg, r1, r2, r3, r4⟩
/-- An owned row of one-cell elements: the cell at i. -/
theorem own_cell {base r cap : Nat} {e : TypeId} {n : Nat} {xs : List Value} (h : w.ownsRow base e 1 (.slice (some ⟨r, 0, none⟩) n cap) n xs) {i : Nat} {u : Value} (hu : xs[i]? = some u) : w.cell? ⟨r, i, none⟩ = some u := by
  have := h.cells (g := r) rfl i u hu
  have e : (⟨r, 0, none⟩ : Addr).add i = ⟨r, i, none⟩ := by unfold Addr.add; split <;> simp_all
  rwa [e] at this
theorem own_frozen {base r cap : Nat} {e : TypeId} {sz n : Nat} {xs : List Value} (h : w.ownsRow base e sz (.slice (some ⟨r, 0, none⟩) n cap) n xs) (i : Nat) : w.frozen? ⟨r, i, none⟩ = false := by
  rcases h.2 with ⟨h0, _⟩ | ⟨g', cap', cur, hv, _, hgg, _⟩
  · cases h0
  · injection hv with hv
    injection hv with hv
    injection hv with hv
    subst hv
    exact Arr.frozen (cs := cur) hgg i
/-- A store into an owned row of one-cell elements. -/
theorem own_set {base r cap : Nat} {e : TypeId} {n : Nat} {xs : List Value} (h : w.ownsRow base e 1 (.slice (some ⟨r, 0, none⟩) n cap) n xs) (i : Nat) (u : Value) : (w.setCell ⟨r, i, none⟩ u).ownsRow base e 1 (.slice (some ⟨r, 0, none⟩) n cap) n (xs.set i u) := by
  refine ⟨by rw [List.length_set]; exact h.1, ?_⟩
  rcases h.2 with ⟨h0, _⟩ | ⟨g', cap', cur, hv, hb, hgg, r1, r2, r3, r4⟩
  · cases h0
  · injection hv with hv hv1 hv2
    injection hv with hv
    injection hv with hv
    subst hv; subst hv2
    refine .inr ⟨r, cap, cur.setIfInBounds i u, rfl, hb, (Arr.set hgg i u), r1, r2, by simpa using r3, ?_⟩
    rw [Array.toList_setIfInBounds, ← r4, List.take_set]
end

/-- A slice value (nil let in) reads as the cells xs, one cell each, below block B. -/
def Rd (w : World) (B : Nat) (A : Option Addr) (n : Nat) (xs : List Value) : Prop :=
  xs.length = n ∧ (0 < n → ∃ b off, A = some ⟨b, off, none⟩ ∧ b < B ∧ ∀ j u, xs[j]? = some u → w.cell? ⟨b, off + j, none⟩ = some u)
section
variable {w w' : World} {S : Nat → Prop} {B B' : Nat} {A : Option Addr} {n : Nat} {xs : List Value}
theorem Rd.nil_ (w : World) (B : Nat) (A : Option Addr) : Rd w B A 0 [] := ⟨rfl, fun h => absurd h (by omega)⟩
theorem Rd.at_ (h : Rd w B A n xs) {k : Nat} (hk : k < n) : ∃ b off u, A = some ⟨b, off, none⟩ ∧ b < B ∧ xs[k]? = some u ∧ w.cell? ⟨b, off + k, none⟩ = some u := by
  obtain ⟨b, off, e, hb, hc⟩ := h.2 (by omega)
  have hl : k < xs.length := by rw [h.1]; exact hk
  exact ⟨b, off, xs[k], e, hb, List.getElem?_eq_getElem hl, hc k _ (List.getElem?_eq_getElem hl)⟩
theorem Rd.keep (h : Rd w B A n xs) (hk : ∀ x, x < B → w'.heap[x]? = w.heap[x]?) : Rd w' B A n xs :=
  ⟨h.1, fun hn => by
    obtain ⟨b, off, e, hb, hc⟩ := h.2 hn
    exact ⟨b, off, e, hb, fun j u hu => (World.cell?_of_block (w := w) (a := ⟨b, off + j, none⟩) (hk b hb)).trans (hc j u hu)⟩⟩
theorem Rd.below (h : Rd w B A n xs) (hb : Below B w w') : Rd w' B A n xs := h.keep fun x hx => hb.block x hx
theorem Rd.more (h : Rd w B A n xs) (hB : B ≤ B') : Rd w B' A n xs :=
  ⟨h.1, fun hn => by
    obtain ⟨b, off, e, hb, hc⟩ := h.2 hn
    exact ⟨b, off, e, by omega, hc⟩⟩
theorem Rd.kp (h : Rd w B A n xs) (k : Kp S w w') (hB : B ≤ w.heap.size) (hs : ∀ x, x < B → ¬ S x) : Rd w' B A n xs := h.below (k.below hB hs)
theorem Rd.of_own {base e : Nat} {v : Value} (h : w.ownsRow base e 1 v n xs) : ∃ A c, v = .slice A n c ∧ Rd w w.heap.size A n xs ∧ n ≤ c ∧ c ≤ maxLen := by
  rcases h.2 with ⟨rfl, rfl⟩ | ⟨g', cap, cur, rfl, hb, hgg, r1, r2, r3, r4⟩
  · exact ⟨none, 0, rfl, ⟨by simpa using h.1, fun h => absurd h (by omega)⟩, Nat.le_refl _, by unfold maxLen; omega⟩
  · refine ⟨_, _, rfl, ⟨by simpa using h.1, fun _ => ⟨g', 0, rfl, (Array.getElem?_eq_some_iff.1 hgg).1, fun j u hu => ?_⟩⟩, r1, r2⟩
    rw [Nat.zero_add]
    exact own_cell h hu
end
end Go.Proofs.Ytedjfbkfaioihaa
