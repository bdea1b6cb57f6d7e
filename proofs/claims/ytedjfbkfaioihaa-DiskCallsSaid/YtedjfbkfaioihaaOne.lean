/- The calls of a disk of one file. Conditions: at most 2^24 bytes, 10^9 steps. -/
import Derived.Test.YtedjfbkfaioihaaOpn
namespace Go.Proofs.Ytedjfbkfaioihaa
open Go.RowKit Go.Shelf Go.Maps

/-- The name's act. -/
def acA : List Ac := [⟨0, nA, noname, 0⟩]
section
variable {w0 w : World} {D : Nat} {q : Int} {b : List Nat} {s : Nat} {S : List En} {X : List Ac} {fu fa k : Int}
theorem At.mkA (h : At w0 w D (newD q)) (hq : 0 ≤ q ∧ q ≤ 67108864) : Calls Try.prog 13 #[.pointer (some ⟨D, 0, none⟩), .string ⟨#[97]⟩] w fun e w' => e = .returned (.int .i64 0) ∧ At w0 w' D (one q [] 0 [] acA false (-1) (-1) 1) := by
  obtain ⟨e1, e2⟩ := one_new q hq
  have c1 := h.create nA (by decide) (by show (0 : Int) ≤ 1000000000; omega) (by show (0 : Nat) ≤ 1000000; omega) (by show (0 : Nat) ≤ 1000000; omega)
  unfold SPost at c1
  rw [e1, e2] at c1
  exact c1
theorem one_fs {P : Fl → Prop} {off : Bool} (h : P ⟨b, s⟩) : ∀ x ∈ (one q b s S X off fu fa k).fs, P x := by
  intro x hx
  have hx' : x = ⟨b, s⟩ := by simpa [one] using hx
  rw [hx']
  exact h
theorem one_used {off : Bool} : usedL (one q b s S X off fu fa k).fs (one q b s S X off fu fa k).dir = b.length := by
  show ([b.length] : List Nat).sum = b.length
  simp
theorem At.appA (h : At w0 w D (one q b s S X false fu fa k)) (A : Option Addr) (c : Nat) (l : List Nat) (n : Nat) (hn : l.length = n) (hr : Rd w w.heap.size A n (l.map bv)) (hlt : ∀ y ∈ l, y < 256) (hb : b.length + n ≤ 16777216) (hq : ((b.length + n : Nat) : Int) ≤ q) (hfu : fu ≠ 0) (hfa : fa ≠ 0) (hk : k ≤ 1000000000) :
    Calls Try.prog 18 #[.pointer (some ⟨D, 0, none⟩), .string ⟨#[97]⟩, .slice A n c] w fun e w' => e = .returned (.int .i64 0) ∧ At w0 w' D (one q (b ++ l) s S X false (less fu) (less fa) (k + 1)) := by
  subst hn
  obtain ⟨e1, e2⟩ := one_append (s := s) (S := S) (X := X) (k := k) hb hq hfu hfa
  have c1 := h.append nA A c l hr hlt (by omega) (by decide) hk (by rw [one_used]; omega) (one_fs (P := fun x => x.b.length + l.length ≤ 1000000000) (by show b.length + l.length ≤ _; omega))
  unfold SPost at c1
  rw [e1, e2] at c1
  exact c1
theorem At.synA (h : At w0 w D (one q b s S X false fu fa k)) (hb : b.length ≤ 16777216) (hfu : fu ≠ 0) (hfa : fa ≠ 0) (hk : k ≤ 1000000000) :
    Calls Try.prog 15 #[.pointer (some ⟨D, 0, none⟩), .string ⟨#[97]⟩] w fun e w' => e = .returned (.int .i64 0) ∧ At w0 w' D (one q b b.length S X false (less fu) (less fa) (k + 1)) := by
  obtain ⟨e1, e2⟩ := one_sync (q := q) (b := b) (s := s) (S := S) (X := X) (k := k) hfu hfa
  have c1 := h.sync nA (by decide) hk (one_fs (P := fun x => x.b.length ≤ 1000000000) (by show b.length ≤ _; omega))
  unfold SPost at c1
  rw [e1, e2] at c1
  exact c1
theorem one_rd : readE (one q b s S X false fu fa k) nA = 0 ∧ readB (one q b s S X false fu fa k) nA = b := ⟨rfl, rfl⟩
theorem At.rdA (h : At w0 w D (one q b s S X false fu fa k)) (hb : b.length ≤ 16777216) :
    Calls Try.prog 19 #[.pointer (some ⟨D, 0, none⟩), .string ⟨#[97]⟩] w fun e w' => At w0 w' D (one q b s S X false fu fa k) ∧ ∃ v, e = .returned (.tuple #[v, .int .i64 0]) ∧ w'.ownsRow w.heap.size 5 1 v b.length (b.map bv) := by
  have c1 := h.read nA (by decide) (one_fs (P := fun x => x.b.length ≤ 1000000000) (by show b.length ≤ _; omega))
  refine c1.mono ?_
  rintro e w' ⟨h1, v, he, hown, _⟩
  rw [one_rd.2] at hown
  exact ⟨h1, v, he, hown⟩
/-- A crash of a disk whose one name is pending. -/
theorem one_crash_no {keep : List Int} (h : odd (pick keep 0) = false) {off : Bool} : crash (one q b s [] acA off fu fa k) keep = ⟨q, [⟨b, s⟩], [], [], [], false, -1, -1, k⟩ := by
  have e : crashA keep 0 acA [] = [] := by
    show crashA keep 1 [] (if odd (pick keep 0) = true then _ else _) = _
    rw [h]; rfl
  show (⟨q, crashF keep 1 (crashA keep 0 acA []) [⟨b, s⟩], crashA keep 0 acA [], crashA keep 0 acA [], [], false, -1, -1, k⟩ : Ds) = _
  rw [e]
  rfl
theorem one_crash_yes {keep : List Int} (h : odd (pick keep 0) = true) {off : Bool} (hs : s ≤ b.length) : ∃ s', s' ≤ b.length ∧ crash (one q b s [] acA off fu fa k) keep = one q (if s < b.length then keptL ⟨b, s⟩ (pick keep 1) (odd (pick keep 2)) else b) s' [⟨nA, 0⟩] [] false (-1) (-1) k := by
  have e : crashA keep 0 acA [] = [⟨nA, 0⟩] := by
    show crashA keep 1 [] (if odd (pick keep 0) = true then _ else _) = _
    rw [h]; rfl
  have e1 : crash (one q b s [] acA off fu fa k) keep = ⟨q, crashF keep 1 (crashA keep 0 acA []) [⟨b, s⟩], crashA keep 0 acA [], crashA keep 0 acA [], [], false, -1, -1, k⟩ := rfl
  rw [e1, e]
  have e2 : crashF keep 1 [⟨nA, 0⟩] [⟨b, s⟩] = if s < b.length then [⟨keptL ⟨b, s⟩ (pick keep 1) (odd (pick keep 2)), (keptL ⟨b, s⟩ (pick keep 1) (odd (pick keep 2))).length⟩] else [⟨b, s⟩] := rfl
  rw [e2]
  by_cases hlt : s < b.length
  · rw [if_pos hlt, if_pos hlt]
    have hl := keptL_len (x := ⟨b, s⟩) (k := pick keep 1) (g := odd (pick keep 2)) hs
    have hn := (keptN_le (x := ⟨b, s⟩) (k := pick keep 1) hs).2
    exact ⟨_, by rw [hl]; exact hn, rfl⟩
  · rw [if_neg hlt, if_neg hlt]
    exact ⟨s, hs, rfl⟩
end
end Go.Proofs.Ytedjfbkfaioihaa
