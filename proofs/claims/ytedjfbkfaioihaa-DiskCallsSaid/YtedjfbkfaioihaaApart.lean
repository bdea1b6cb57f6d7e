/- Two disks apart: a call of one leaves the other. No conditions. -/
import Derived.Test.YtedjfbkfaioihaaDox
import Derived.Test.YtedjfbkfaioihaaFit
namespace Go.Proofs.Ytedjfbkfaioihaa
open Go.RowKit Go.Shelf Go.Maps

/-- Two disks, all of them made since w0; the blocks of which χ holds are none of theirs. -/
def Ap (w0 w : World) (Da Db : Nat) (sa sb : Ds) (χ : Nat → Prop) : Prop :=
  Below w0.heap.size w0 w ∧ ∃ φa φb : Nat → Prop, DK w φa Da sa ∧ DK w φb Db sb ∧ (∀ x, φa x → ¬ φb x) ∧ (∀ x, φa x → w0.heap.size ≤ x) ∧ (∀ x, φb x → w0.heap.size ≤ x) ∧ ∀ x, χ x → x < w.heap.size ∧ ¬ φa x ∧ ¬ φb x
section
variable {w0 w w' : World} {Da Db : Nat} {sa sb st' : Ds} {χ χ' : Nat → Prop}
theorem Ap.symm (h : Ap w0 w Da Db sa sb χ) : Ap w0 w Db Da sb sa χ := by
  obtain ⟨h0, φa, φb, h1, h2, h3, h4, h5, h6⟩ := h
  exact ⟨h0, φb, φa, h2, h1, fun x hb ha => h3 x ha hb, h5, h4, fun x hx => ⟨(h6 x hx).1, (h6 x hx).2.2, (h6 x hx).2.1⟩⟩
theorem Ap.more (h : Ap w0 w Da Db sa sb χ) (k : Below w.heap.size w w') (hχ : ∀ x, χ' x → χ x ∨ (w.heap.size ≤ x ∧ x < w'.heap.size)) : Ap w0 w' Da Db sa sb χ' := by
  obtain ⟨h0, φa, φb, h1, h2, h3, h4, h5, h6⟩ := h
  refine ⟨h0.trans (k.mono h0.size), φa, φb, h1.below k (Nat.le_refl _), h2.below k (Nat.le_refl _), h3, h4, h5, fun x hx => ?_⟩
  rcases hχ x hx with hx | hx
  · exact ⟨Nat.lt_of_lt_of_le (h6 x hx).1 k.size, (h6 x hx).2⟩
  · exact ⟨hx.2, fun hy => by have := h1.1 x hy; omega, fun hy => by have := h2.1 x hy; omega⟩
theorem Ap.below (h : Ap w0 w Da Db sa sb χ) (k : Below w.heap.size w w') : Ap w0 w' Da Db sa sb χ := h.more k fun _ hx => .inl hx
/-- A call of the first. -/
theorem Ap.call {f : Nat} {args : Array Value} {x : Int} (h : Ap w0 w Da Db sa sb χ) (hc : ∀ φ, DK w φ Da sa → Calls Try.prog f args w (DPost w φ Da x st')) :
    Calls Try.prog f args w fun e w' => e = .returned (.int .i64 x) ∧ Ap w0 w' Da Db st' sb χ ∧ Kp (fun x => ¬ χ x) w w' := by
  obtain ⟨h0, φa, φb, h1, h2, h3, h4, h5, h6⟩ := h
  refine (hc φa h1).mono ?_
  rintro e w' ⟨rfl, hd, hk⟩
  refine ⟨rfl, ⟨h0.trans (hk.below h0.size fun x hx hp => by have := h4 x hp; omega), wid φa w w', φb, hd, h2.kp hk (fun x hb ha => h3 x ha hb), ?_, ?_, h5, ?_⟩, hk.mono fun x _ hp hx => (h6 x hx).2.1 hp⟩
  · rintro x (hx | hx) hb
    · exact h3 x hx hb
    · have := h2.1 x hb
      omega
  · rintro x (hx | hx)
    · exact h4 x hx
    · exact Nat.le_trans h0.size hx.1
  · intro x hx
    have h7 := h6 x hx
    refine ⟨Nat.lt_of_lt_of_le h7.1 hk.size, ?_, h7.2.2⟩
    rintro (hy | hy)
    · exact h7.2.1 hy
    · omega
/-- A call of the second. -/
theorem Ap.callr {f : Nat} {args : Array Value} {x : Int} (h : Ap w0 w Da Db sa sb χ) (hc : ∀ φ, DK w φ Db sb → Calls Try.prog f args w (DPost w φ Db x st')) :
    Calls Try.prog f args w fun e w' => e = .returned (.int .i64 x) ∧ Ap w0 w' Da Db sa st' χ ∧ Kp (fun x => ¬ χ x) w w' :=
  (h.symm.call hc).mono fun _ _ hp => ⟨hp.1, hp.2.1.symm, hp.2.2⟩
theorem Ap.room (h : Ap w0 w Da Db sa sb χ) (hu : usedL sa.fs sa.dir ≤ 1000000000) : Calls Try.prog 20 #[.pointer (some ⟨Da, 0, none⟩)] w fun e w' => e = .returned (.int .i64 (roomV sa)) ∧ Ap w0 w' Da Db sa sb χ := by
  have h' := h
  obtain ⟨h0, φa, φb, h1, _⟩ := h'
  exact (room20 Da sa φa w h1 hu).mono fun _ _ hp => ⟨hp.1, h.below hp.2⟩
theorem Ap.steps (h : Ap w0 w Da Db sa sb χ) : Calls Try.prog 27 #[.pointer (some ⟨Da, 0, none⟩)] w fun e w' => e = .returned (.int .i64 sa.steps) ∧ w' = w := by
  obtain ⟨h0, φa, φb, h1, _⟩ := h
  exact steps27 Da sa φa w h1
theorem Ap.new {q : Int} (h : At w0 w Da sa) : Calls Try.prog 12 #[.int .i64 q] w fun e w' => ∃ Db, e = .returned (.pointer (some ⟨Db, 0, none⟩)) ∧ Ap w0 w' Da Db sa (newD q) (fun _ => False) := by
  obtain ⟨h0, φ, h1, h2⟩ := h
  refine (new12 q w).mono ?_
  rintro e w' ⟨Db, rfl, hd, hb⟩
  exact ⟨Db, rfl, h0.trans (hb.mono h0.size), φ, _, h1.below hb (Nat.le_refl _), hd, fun x hx hy => by have := h1.1 x hx; omega, h2, fun x hx => Nat.le_trans h0.size hx.1, fun x hx => hx.elim⟩
end
end Go.Proofs.Ytedjfbkfaioihaa
