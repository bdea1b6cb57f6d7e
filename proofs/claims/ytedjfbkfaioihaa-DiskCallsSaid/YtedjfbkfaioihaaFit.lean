/- How much a disk may have grown behind so many steps, plainly. No conditions. -/
import Derived.Test.YtedjfbkfaioihaaSwap
namespace Go.Proofs.Ytedjfbkfaioihaa
open Go.RowKit

/-- At most i steps, at most N bytes in each file. -/
structure Fit (st : Ds) (i N : Nat) : Prop where
  steps : st.steps ≤ i
  acts : st.sure.length + st.acts.length ≤ i
  dir : st.dir.length ≤ i
  fs : ∀ x ∈ st.fs, x.b.length ≤ N
theorem putp_len (p : En) (L : List En) : (putp p L).length ≤ L.length + 1 := by
  have h1 := delp_le p.nm L
  unfold putp
  rw [length_insp]
  omega
theorem fit_new (q : Int) : Fit (newD q) 0 0 := ⟨Int.le_refl _, Nat.le_refl _, Nat.le_refl _, fun x hx => by cases hx⟩
theorem Fit.mono {st : Ds} {i N i' N' : Nat} (h : Fit st i N) (hi : i ≤ i') (hN : N ≤ N') : Fit st i' N' :=
  ⟨by have := h.steps; omega, Nat.le_trans h.acts hi, Nat.le_trans h.dir hi, fun x hx => Nat.le_trans (h.fs x hx) hN⟩
theorem fit_do {st : Ds} {i N : Nat} (h : Fit st i N) (k : Nat) (n m : ByteArray) (b : List Nat) : (doS st k n m b).sure.length + (doS st k n m b).acts.length ≤ i + 1 ∧ (doS st k n m b).dir.length ≤ i + 1 ∧ ∀ x ∈ (doS st k n m b).fs, x.b.length ≤ N + b.length := by
  obtain ⟨_, ha, hd, hf⟩ := h
  have hf' : ∀ x ∈ st.fs, x.b.length ≤ N + b.length := fun x hx => Nat.le_trans (hf x hx) (Nat.le_add_right _ _)
  have hfl : ∀ j, (fl st.fs j).b.length ≤ N := fun j => by
    rcases fl_mem (fs := st.fs) (j := j) with h1 | h1
    · exact hf _ h1
    · rw [h1]; exact Nat.zero_le _
  have hset : ∀ j (y : Fl), y.b.length ≤ N + b.length → ∀ x ∈ st.fs.set j y, x.b.length ≤ N + b.length := fun j y hy x hx => by
    rcases List.mem_or_eq_of_mem_set hx with hx | rfl
    · exact hf' x hx
    · exact hy
  match k with
  | 0 =>
    refine ⟨?_, ?_, ?_⟩
    · show st.sure.length + (st.acts ++ [_]).length ≤ _
      rw [List.length_append]
      show _ + (_ + 1) ≤ _
      omega
    · have := putp_len ⟨n, st.fs.length⟩ st.dir
      show (putp _ _).length ≤ _
      omega
    · intro x hx
      rcases List.mem_append.1 hx with hx | hx
      · exact hf' x hx
      · rw [List.mem_singleton.1 hx]; exact Nat.zero_le _
  | 1 =>
    have e : doS st 1 n m b = match fnd n.data.toList st.dir with
      | none => st
      | some j => { st with fs := st.fs.set j ⟨(fl st.fs j).b ++ b, (fl st.fs j).s⟩ } := rfl
    rw [e]
    cases fnd n.data.toList st.dir with
    | none => exact ⟨by show st.sure.length + st.acts.length ≤ _; omega, by show st.dir.length ≤ _; omega, hf'⟩
    | some j =>
      refine ⟨by show st.sure.length + st.acts.length ≤ _; omega, by show st.dir.length ≤ _; omega, hset j _ ?_⟩
      show (_ ++ b).length ≤ _
      rw [List.length_append]
      have := hfl j
      omega
  | 2 =>
    have e : doS st 2 n m b = match fnd n.data.toList st.dir with
      | none => st
      | some j => { st with fs := st.fs.set j ⟨(fl st.fs j).b, (fl st.fs j).b.length⟩ } := rfl
    rw [e]
    cases fnd n.data.toList st.dir with
    | none => exact ⟨by show st.sure.length + st.acts.length ≤ _; omega, by show st.dir.length ≤ _; omega, hf'⟩
    | some j =>
      refine ⟨by show st.sure.length + st.acts.length ≤ _; omega, by show st.dir.length ≤ _; omega, hset j _ ?_⟩
      have := hfl j
      show (fl st.fs j).b.length ≤ _
      omega
  | 3 =>
    have e : doS st 3 n m b = match fnd n.data.toList st.dir with
      | none => st
      | some j => { st with dir := putp ⟨m, j⟩ (delp n.data.toList st.dir), acts := st.acts ++ [⟨1, n, m, j⟩] } := rfl
    rw [e]
    cases fnd n.data.toList st.dir with
    | none => exact ⟨by show st.sure.length + st.acts.length ≤ _; omega, by show st.dir.length ≤ _; omega, hf'⟩
    | some j =>
      refine ⟨?_, ?_, hf'⟩
      · show st.sure.length + (st.acts ++ [_]).length ≤ _
        rw [List.length_append]
        show _ + (_ + 1) ≤ _
        omega
      · have h1 := putp_len ⟨m, j⟩ (delp n.data.toList st.dir)
        have h2 := delp_le n.data.toList st.dir
        show (putp _ _).length ≤ _
        omega
  | 4 =>
    refine ⟨?_, ?_, hf'⟩
    · show st.sure.length + (st.acts ++ [_]).length ≤ _
      rw [List.length_append]
      show _ + (_ + 1) ≤ _
      omega
    · have h2 := delp_le n.data.toList st.dir
      show (delp _ _).length ≤ _
      omega
  | k + 5 => exact ⟨by show st.dir.length + 0 ≤ _; omega, by show st.dir.length ≤ _; omega, hf'⟩
theorem Fit.next {st : Ds} {i N : Nat} (h : Fit st i N) (k : Nat) (n m : ByteArray) (b : List Nat) : Fit (nx st k n m b) (i + 1) (N + b.length) := by
  have h0 : Fit st (i + 1) (N + b.length) := h.mono (by omega) (by omega)
  obtain ⟨h1, h2, h3⟩ := fit_do h k n m b
  have hs := h.steps
  unfold nx stepS
  split
  · exact h0
  · split
    · exact ⟨h0.steps, h0.acts, h0.dir, h0.fs⟩
    · split
      · exact h0
      · split
        · exact ⟨h0.steps, h0.acts, h0.dir, h0.fs⟩
        · exact ⟨by show st.steps + 1 ≤ _; omega, h1, h2, h3⟩
theorem Fit.crashed {st : Ds} {i N : Nat} (h : Fit st i N) (hi : Inv st) (keep : List Int) : Fit (crash st keep) i N := by
  have h1 := crashA_len keep st.acts 0 st.sure
  have h2 := crashF_le keep N (crashA keep 0 st.acts st.sure) st.acts.length st.fs (fun x hx => ⟨(hi.fs x hx).1, h.fs x hx⟩)
  have h3 := h.acts
  exact ⟨h.steps, by show (crashA keep 0 st.acts st.sure).length + 0 ≤ i; omega, by show (crashA keep 0 st.acts st.sure).length ≤ i; omega, fun x hx => (h2 x hx).2⟩
theorem used_le (fs : List Fl) (N : Nat) (h : ∀ x ∈ fs, x.b.length ≤ N) : ∀ L : List En, usedL fs L ≤ L.length * N
  | [] => Nat.zero_le _
  | e :: r => by
    have h1 := used_le fs N h r
    have h2 : (fl fs e.f).b.length ≤ N := by
      rcases fl_mem (fs := fs) (j := e.f) with h1 | h1
      · exact h _ h1
      · rw [h1]; exact Nat.zero_le _
    have e1 : usedL fs (e :: r) = (fl fs e.f).b.length + usedL fs r := by
      unfold usedL
      simp
    rw [e1, List.length_cons, Nat.succ_mul]
    omega
theorem Fit.usedle {st : Ds} {i N : Nat} (h : Fit st i N) : usedL st.fs st.dir ≤ i * N :=
  Nat.le_trans (used_le st.fs N h.fs st.dir) (Nat.mul_le_mul_right _ h.dir)
end Go.Proofs.Ytedjfbkfaioihaa
