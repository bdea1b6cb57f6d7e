/- A crash's numbers, one by one; what stays of a file. Conditions: files of at most 10^9 bytes. -/
import Derived.Test.YtedjfbkfaioihaaRead
namespace Go.Proofs.Ytedjfbkfaioihaa
open Go.RowKit Go.Shelf Go.Maps

/-- Numbers in a slice, in a block of which χ holds. -/
def Ik (w : World) (χ : Nat → Prop) (A : Option Addr) (n : Nat) (ks : List Int) : Prop :=
  ks.length = n ∧ (0 < n → ∃ b off, A = some ⟨b, off, none⟩ ∧ χ b ∧ b < w.heap.size ∧ ∀ j x, ks[j]? = some x → w.cell? ⟨b, off + j, none⟩ = some (.int .i64 x))
theorem Ik.kp {w w' : World} {χ S : Nat → Prop} {A : Option Addr} {n : Nat} {ks : List Int} (h : Ik w χ A n ks) (k : Kp S w w') (hS : ∀ x, χ x → ¬ S x) : Ik w' χ A n ks :=
  ⟨h.1, fun hn => by
    obtain ⟨b, off, e, hc, hb, hx⟩ := h.2 hn
    exact ⟨b, off, e, hc, Nat.lt_of_lt_of_le hb k.size, fun j x hj => (World.cell?_of_block (w := w) (a := ⟨b, off + j, none⟩) (k.block b hb (hS b hc))).trans (hx j x hj)⟩⟩
/-- A picker at P that has the numbers ks yet to tell. -/
def Pk (w : World) (χ : Nat → Prop) (P : Nat) (ks : List Int) : Prop := ∃ A n c, Arr w P 85 #[.slice A n c] ∧ Ik w χ A n ks ∧ n ≤ c ∧ c ≤ maxLen
theorem Pk.kp {w w' : World} {χ S : Nat → Prop} {P : Nat} {ks : List Int} (h : Pk w χ P ks) (k : Kp S w w') (hP : ¬ S P) (hS : ∀ x, χ x → ¬ S x) : Pk w' χ P ks := by
  obtain ⟨A, n, c, ha, hi, h1, h2⟩ := h
  exact ⟨A, n, c, ha.kp k hP, hi.kp k hS, h1, h2⟩
theorem Pk.lt {w : World} {χ : Nat → Prop} {P : Nat} {ks : List Int} (h : Pk w χ P ks) : P < w.heap.size := by
  obtain ⟨A, n, c, ha, _⟩ := h
  exact ha.lt
def NextPost (w : World) (χ : Nat → Prop) (P : Nat) (ks : List Int) (e : Ending) (w' : World) : Prop := e = .returned (.int .i64 (ks.headD 0)) ∧ Pk w' χ P ks.tail ∧ Kp (fun x => x = P) w w'

set_option maxRecDepth 100000 in
set_option maxHeartbeats 2000000 in
theorem next59 (P : Nat) (χ : Nat → Prop) (ks : List Int) (w : World) (h : Pk w χ P ks) (hP : ¬ χ P) : Calls Try.prog 59 #[.pointer (some ⟨P, 0, none⟩)] w (NextPost w χ P ks) := by
  obtain ⟨A, n, c, ha, hi, hnc, hcm⟩ := h
  have c0 : w.cell? ⟨P, 0, none⟩ = some (.slice A n c) := ha.at_ rfl
  have f0 := ha.frozen 0
  have hlen := hi.1
  cases ks with
  | nil =>
    obtain rfl : n = 0 := by simpa using hlen.symm
    have HX : Hid (Pk w χ P []) := Lib.hid ⟨A, 0, c, ha, hi, hnc, hcm⟩
    clear ha hi hlen
    go_enter Try.func59, Try.ntmps59
    go_wp2_with fail
    go_ret
    exact ⟨rfl, HX.out, Kp.refl _ _⟩
  | cons x r =>
    have hn0 : 0 < n := by simp at hlen; omega
    obtain ⟨b, off, rfl, hc, hb, hx⟩ := hi.2 hn0
    have g0 : w.cell? ⟨b, off, none⟩ = some (.int .i64 x) := by have := hx 0 x rfl; simpa using this
    have z1 : (1 : Int) ≤ (n : Int) := by omega
    have z2 : (n : Int) ≤ (c : Int) := by omega
    have z3 : (0 : Int) < (n : Int) := by omega
    have z4 : ((n : Int) == 0) = false := by rw [beq_eq_false_iff_ne]; omega
    have z5 : 1 ≤ c := by omega
    have z6 : 1 ≤ n := by omega
    have HX : Hid (∀ off' c', (off' = off + 1 ∨ n = 1) → n - 1 ≤ c' → c' ≤ maxLen → NextPost w χ P (x :: r) (.returned (.int .i64 x)) (w.setCell ⟨P, 0, none⟩ (.slice (some ⟨b, off', none⟩) (n - 1) c'))) := by
      refine Lib.hid fun off' c' ho h1 h2 => ?_
      have hk : Kp (fun x => x = P) w (w.setCell ⟨P, 0, none⟩ (.slice (some ⟨b, off', none⟩) (n - 1) c')) := Kp.set _ w P 0 _ rfl
      have hPb : b ≠ P := fun e => hP (by rw [← e]; exact hc)
      refine ⟨rfl, ⟨_, n - 1, c', ha.set 0 _, ⟨by simp at hlen ⊢; omega, fun hn => ?_⟩, h1, h2⟩, hk⟩
      rcases ho with ho | ho
      · refine ⟨b, off', rfl, hc, by simpa using hb, fun j y hj => ?_⟩
        rw [ho, World.cell?_setCell_far _ _ _ _ (by show P ≠ b; omega)]
        have := hx (j + 1) y (by simpa using hj)
        rw [show off + 1 + j = off + (j + 1) by omega]
        exact this
      · omega
    clear ha hi hlen hx hP
    by_cases hc1 : c = 1
    · subst hc1
      have hn1 : n = 1 := by omega
      subst hn1
      go_enter Try.func59, Try.ntmps59
      go_wp2_with fail
      go_ret
      first | exact HX.out _ _ (.inl rfl) (by omega) (by unfold maxLen; omega) | exact HX.out _ _ (Or.inr (by first | rfl | trivial)) (by omega) (by unfold maxLen; omega)
    · have z7 : (c == 1) = false := by simpa using hc1
      have z8 : ((c : Int) == 1) = false := by rw [beq_eq_false_iff_ne]; omega
      go_enter Try.func59, Try.ntmps59
      go_wp2_with fail
      go_ret
      exact HX.out _ _ (.inl rfl) (by omega) (by omega)

/-! ### kept -/
theorem xor165 (y : Nat) (h : y < 256) : bits .xor .u8 (y : Int) 165 = ((y ^^^ 165 : Nat) : Int) := by
  have h2 : y ^^^ 165 < 2 ^ 8 := Nat.xor_lt_two_pow (by omega) (by decide)
  show IntKind.u8.wrap ((BitVec.ofInt 8 (y : Int) ^^^ BitVec.ofInt 8 165).toNat : Int) = _
  have h1 : (BitVec.ofInt 8 (y : Int)).toNat = y := by rw [BitVec.toNat_ofInt]; omega
  rw [BitVec.toNat_xor, h1, show (BitVec.ofInt 8 165).toNat = 165 from by decide, IntKind.wrap_u8]
  omega
/-- The bytes from a place up to another are turned. -/
def XL (p : List Nat) (lo hi : Nat) : List Nat := p.mapIdx fun t y => if lo ≤ t ∧ t < hi then y ^^^ 165 else y
theorem XL_len (p : List Nat) (lo hi : Nat) : (XL p lo hi).length = p.length := by unfold XL; simp
theorem XL_start (p : List Nat) (lo : Nat) : XL p lo lo = p := by
  unfold XL
  refine List.ext_getElem? fun i => ?_
  rw [List.getElem?_mapIdx]
  cases h : p[i]? with
  | none => rfl
  | some y =>
    show some (if lo ≤ i ∧ i < lo then _ else _) = _
    rw [if_neg (by omega)]
theorem XL_step {p : List Nat} {lo j y : Nat} (hl : lo ≤ j) (hy : p[j]? = some y) : XL p lo (j + 1) = (XL p lo j).set j (y ^^^ 165) := by
  have hj := (List.getElem?_eq_some_iff.1 hy).1
  refine List.ext_getElem? fun i => ?_
  by_cases hij : j = i
  · subst hij
    rw [List.getElem?_set_self (by rw [XL_len]; exact hj)]
    unfold XL
    rw [List.getElem?_mapIdx, hy]
    show some (if lo ≤ j ∧ j < j + 1 then _ else _) = _
    rw [if_pos (by omega)]
  · rw [List.getElem?_set_ne hij]
    unfold XL
    rw [List.getElem?_mapIdx, List.getElem?_mapIdx]
    cases p[i]? with
    | none => rfl
    | some z =>
      show some (if lo ≤ i ∧ i < j + 1 then _ else _) = some (if lo ≤ i ∧ i < j then _ else _)
      by_cases h : lo ≤ i ∧ i < j
      · rw [if_pos h, if_pos (by omega)]
      · rw [if_neg h, if_neg (by omega)]
theorem XL_at {p : List Nat} {lo j y : Nat} (hy : p[j]? = some y) : (XL p lo j)[j]? = some y := by
  unfold XL
  rw [List.getElem?_mapIdx, hy]
  show some (if lo ≤ j ∧ j < j then _ else _) = _
  rw [if_neg (by omega)]
/-- How many bytes stay. -/
def keptN (x : Fl) (k : Int) : Nat := x.s + (min (max 0 k) ((x.b.length : Int) - x.s)).toNat
theorem keptN_le {x : Fl} {k : Int} (h : x.s ≤ x.b.length) : x.s ≤ keptN x k ∧ keptN x k ≤ x.b.length := by unfold keptN; omega
theorem keptL_no {x : Fl} {k : Int} {g : Bool} (h : ¬ (g = true ∧ x.s < keptN x k)) : keptL x k g = x.b.take (keptN x k) := by
  unfold keptL
  exact if_neg h
theorem keptL_yes {x : Fl} {k : Int} {g : Bool} (_ : x.s ≤ x.b.length) (h : g = true ∧ x.s < keptN x k) : keptL x k g = XL (x.b.take (keptN x k)) (max x.s ((keptN x k - 1) / 512 * 512)) (keptN x k) := by
  unfold keptL
  refine (if_pos h).trans ?_
  unfold XL
  refine List.ext_getElem? fun i => ?_
  rw [List.getElem?_mapIdx, List.getElem?_mapIdx]
  show ((x.b.take (keptN x k))[i]?).map _ = _
  cases hi : (x.b.take (keptN x k))[i]? with
  | none => rfl
  | some y =>
    have := (List.getElem?_eq_some_iff.1 hi).1
    rw [List.length_take] at this
    show some (if max x.s ((keptN x k - 1) / 512 * 512) ≤ i then _ else _) = some (if _ ∧ _ then _ else _)
    by_cases h2 : max x.s ((keptN x k - 1) / 512 * 512) ≤ i
    · rw [if_pos h2, if_pos ⟨h2, by omega⟩]
    · rw [if_neg h2, if_neg fun h => h2 h.1]
theorem keptL_len {x : Fl} {k : Int} {g : Bool} (hs : x.s ≤ x.b.length) : (keptL x k g).length = keptN x k := by
  have := keptN_le (k := k) hs
  by_cases h : g = true ∧ x.s < keptN x k
  · rw [keptL_yes hs h, XL_len, List.length_take]; omega
  · rw [keptL_no h, List.length_take]; omega
theorem XL_lt {p : List Nat} {lo hi : Nat} (h : ∀ y ∈ p, y < 256) : ∀ y ∈ XL p lo hi, y < 256 := by
  intro y hy
  obtain ⟨i, hi⟩ := List.mem_iff_getElem?.1 hy
  unfold XL at hi
  rw [List.getElem?_mapIdx, Option.map_eq_some_iff] at hi
  obtain ⟨z, hz, he⟩ := hi
  have := h z (List.mem_of_getElem? hz)
  split at he
  · subst he
    exact Nat.lt_of_lt_of_le (Nat.xor_lt_two_pow (n := 8) (by omega) (by decide)) (by decide)
  · omega
theorem keptL_lt {x : Fl} {k : Int} {g : Bool} (hs : x.s ≤ x.b.length) (h : ∀ y ∈ x.b, y < 256) : ∀ y ∈ keptL x k g, y < 256 := by
  have h2 : ∀ y ∈ x.b.take (keptN x k), y < 256 := fun y hy => h y (List.mem_of_mem_take hy)
  by_cases hg : g = true ∧ x.s < keptN x k
  · rw [keptL_yes hs hg]; exact XL_lt h2
  · rw [keptL_no hg]; exact h2
end Go.Proofs.Ytedjfbkfaioihaa
