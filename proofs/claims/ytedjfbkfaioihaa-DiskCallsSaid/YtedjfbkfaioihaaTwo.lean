/- A disk of two files: its appends, its removes. Conditions: at most 10^4 bytes, as a law has them. -/
import Derived.Test.YtedjfbkfaioihaaOne
namespace Go.Proofs.Ytedjfbkfaioihaa
open Go.RowKit Go.Shelf Go.Maps

def nB : ByteArray := ⟨#[98]⟩
def two (q : Int) (x y : List Nat) (X : List Ac) (k : Int) : Ds := ⟨q, [⟨x, 0⟩, ⟨y, 0⟩], [⟨nA, 0⟩, ⟨nB, 1⟩], [], X, false, -1, -1, k⟩
def acAB : List Ac := [⟨0, nA, noname, 0⟩, ⟨0, nB, noname, 1⟩]
theorem two_used (q : Int) (x y : List Nat) (X : List Ac) (k : Int) : usedL (two q x y X k).fs (two q x y X k).dir = x.length + y.length := by
  show ([x.length, y.length] : List Nat).sum = _
  simp
theorem two_ownA {q k : Int} {x y c : List Nat} {X : List Ac} (h : x.length + c.length ≤ 16777216) : ownE (two q x y X k) 1 nA noname c = if q < ((x.length + y.length : Nat) : Int) + c.length then 11 else 0 := by
  have e1 : fnd nA.data.toList (two q x y X k).dir = some 0 := rfl
  have e2 : fl (two q x y X k).fs 0 = ⟨x, 0⟩ := rfl
  have e4 : (two q x y X k).quota = q := rfl
  unfold ownE
  simp only [e1, e2, two_used, e4]
  rw [if_neg (by omega)]
theorem two_ownB {q k : Int} {x y c : List Nat} {X : List Ac} (h : y.length + c.length ≤ 16777216) : ownE (two q x y X k) 1 nB noname c = if q < ((x.length + y.length : Nat) : Int) + c.length then 11 else 0 := by
  have e1 : fnd nB.data.toList (two q x y X k).dir = some 1 := rfl
  have e2 : fl (two q x y X k).fs 1 = ⟨y, 0⟩ := rfl
  have e4 : (two q x y X k).quota = q := rfl
  unfold ownE
  simp only [e1, e2, two_used, e4]
  rw [if_neg (by omega)]
theorem step_11 {st st2 : Ds} (h1 : st.off = false) (h2 : st.fuse = -1) : stepS st 11 st2 = st := by
  unfold stepS
  rw [h1, h2]
  rfl
theorem ans_11 {st : Ds} (h1 : st.off = false) (h2 : st.fuse = -1) : stepE st 11 = 11 := by
  unfold stepE
  rw [h1, h2]
  rfl
section
variable {w0 w : World} {D : Nat} {q k : Int} {x y : List Nat} {X : List Ac}
theorem two_fs {P : Fl → Prop} (h1 : P ⟨x, 0⟩) (h2 : P ⟨y, 0⟩) : ∀ z ∈ (two q x y X k).fs, P z := by
  intro z hz
  have hz' : z = ⟨x, 0⟩ ∨ z = ⟨y, 0⟩ := by simpa [two] using hz
  rcases hz' with rfl | rfl
  · exact h1
  · exact h2
theorem At.mkAB (h : At w0 w D (one q [] 0 [] acA false (-1) (-1) 1)) : Calls Try.prog 13 #[.pointer (some ⟨D, 0, none⟩), .string ⟨#[98]⟩] w fun e w' => e = .returned (.int .i64 0) ∧ At w0 w' D (two q [] [] acAB 2) :=
  h.create nB (by decide) (by show (1 : Int) ≤ 1000000000; omega) (by show (1 : Nat) ≤ 1000000; omega) (by show (1 : Nat) ≤ 1000000; omega)
theorem At.app2A (h : At w0 w D (two q x y X k)) (A : Option Addr) (c : Nat) (l : List Nat) (n : Nat) (hn : l.length = n) (hr : Rd w w.heap.size A n (l.map bv)) (hlt : ∀ y ∈ l, y < 256) (hb : x.length + n ≤ 16777216) (hy : y.length ≤ 16777216) (hk : k ≤ 1000000000) :
    (((x.length + y.length + n : Nat) : Int) ≤ q → Calls Try.prog 18 #[.pointer (some ⟨D, 0, none⟩), .string ⟨#[97]⟩, .slice A n c] w fun e w' => e = .returned (.int .i64 0) ∧ At w0 w' D (two q (x ++ l) y X (k + 1))) ∧
    (q < ((x.length + y.length + n : Nat) : Int) → Calls Try.prog 18 #[.pointer (some ⟨D, 0, none⟩), .string ⟨#[97]⟩, .slice A n c] w fun e w' => e = .returned (.int .i64 11) ∧ At w0 w' D (two q x y X k)) := by
  subst hn
  have c1 := h.append nA A c l hr hlt (by omega) (by decide) hk (by rw [two_used]; omega) (two_fs (P := fun x => x.b.length + l.length ≤ 1000000000) (by show x.length + l.length ≤ _; omega) (by show y.length + l.length ≤ _; omega))
  unfold SPost nx ans at c1
  rw [two_ownA hb] at c1
  refine ⟨fun hq => ?_, fun hq => ?_⟩
  · rw [if_neg (by omega)] at c1
    exact c1
  · rw [if_pos (by omega), step_11 rfl rfl, ans_11 rfl rfl] at c1
    exact c1
theorem At.app2B (h : At w0 w D (two q x y X k)) (A : Option Addr) (c : Nat) (l : List Nat) (n : Nat) (hn : l.length = n) (hr : Rd w w.heap.size A n (l.map bv)) (hlt : ∀ y ∈ l, y < 256) (hb : y.length + n ≤ 16777216) (hx : x.length ≤ 16777216) (hk : k ≤ 1000000000) :
    (((x.length + y.length + n : Nat) : Int) ≤ q → Calls Try.prog 18 #[.pointer (some ⟨D, 0, none⟩), .string ⟨#[98]⟩, .slice A n c] w fun e w' => e = .returned (.int .i64 0) ∧ At w0 w' D (two q x (y ++ l) X (k + 1))) ∧
    (q < ((x.length + y.length + n : Nat) : Int) → Calls Try.prog 18 #[.pointer (some ⟨D, 0, none⟩), .string ⟨#[98]⟩, .slice A n c] w fun e w' => e = .returned (.int .i64 11) ∧ At w0 w' D (two q x y X k)) := by
  subst hn
  have c1 := h.append nB A c l hr hlt (by omega) (by decide) hk (by rw [two_used]; omega) (two_fs (P := fun x => x.b.length + l.length ≤ 1000000000) (by show x.length + l.length ≤ _; omega) (by show y.length + l.length ≤ _; omega))
  unfold SPost nx ans at c1
  rw [two_ownB hb] at c1
  refine ⟨fun hq => ?_, fun hq => ?_⟩
  · rw [if_neg (by omega)] at c1
    exact c1
  · rw [if_pos (by omega), step_11 rfl rfl, ans_11 rfl rfl] at c1
    exact c1
theorem At.room2 (h : At w0 w D (two q x y X k)) (hx : x.length + y.length ≤ 16777216) : Calls Try.prog 20 #[.pointer (some ⟨D, 0, none⟩)] w fun e w' => e = .returned (.int .i64 (q - (x.length + y.length : Nat))) ∧ At w0 w' D (two q x y X k) := by
  have c1 := h.room (by rw [two_used]; omega)
  unfold roomV at c1
  rw [two_used] at c1
  exact c1
/-- Behind the removes. -/
def gone1 (q : Int) (x y : List Nat) (X : List Ac) (k : Int) : Ds := ⟨q, [⟨x, 0⟩, ⟨y, 0⟩], [⟨nB, 1⟩], [], X ++ [⟨2, nA, noname, 0⟩], false, -1, -1, k⟩
def gone2 (q : Int) (x y : List Nat) (X : List Ac) (k : Int) : Ds := ⟨q, [⟨x, 0⟩, ⟨y, 0⟩], [], [], X, false, -1, -1, k⟩
theorem At.rm1 (h : At w0 w D (two q x y X k)) (hX : X.length ≤ 1000) (hk : k ≤ 1000000000) : Calls Try.prog 21 #[.pointer (some ⟨D, 0, none⟩), .string ⟨#[97]⟩] w fun e w' => e = .returned (.int .i64 0) ∧ At w0 w' D (gone1 q x y X (k + 1)) :=
  h.remove nA (by decide) hk (by show X.length ≤ _; omega) (by show (2 : Nat) ≤ 1000000; omega)
theorem At.rm2 (h : At w0 w D (gone1 q x y X k)) (hX : X.length ≤ 1000) (hk : k ≤ 1000000000) : Calls Try.prog 21 #[.pointer (some ⟨D, 0, none⟩), .string ⟨#[98]⟩] w fun e w' => e = .returned (.int .i64 0) ∧ At w0 w' D (gone2 q x y ((X ++ [⟨2, nA, noname, 0⟩]) ++ [⟨2, nB, noname, 0⟩]) (k + 1)) :=
  h.remove nB (by decide) hk (by show (X ++ [_]).length ≤ _; rw [List.length_append]; show X.length + 1 ≤ _; omega) (by show (1 : Nat) ≤ 1000000; omega)
theorem At.roomG (h : At w0 w D (gone2 q x y X k)) : Calls Try.prog 20 #[.pointer (some ⟨D, 0, none⟩)] w fun e w' => e = .returned (.int .i64 q) ∧ At w0 w' D (gone2 q x y X k) := by
  have c1 := h.room (by show (0 : Nat) ≤ 1000000000; omega)
  have e : roomV (gone2 q x y X k) = q := by
    show q - ((0 : Nat) : Int) = q
    omega
  rw [e] at c1
  exact c1
end
end Go.Proofs.Ytedjfbkfaioihaa
