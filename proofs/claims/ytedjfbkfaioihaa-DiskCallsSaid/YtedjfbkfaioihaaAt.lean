/- A disk of a law's own: what its calls leave, with nothing of the world before it touched. Conditions: as in the calls' own texts. -/
import Derived.Test.YtedjfbkfaioihaaCrw
namespace Go.Proofs.Ytedjfbkfaioihaa
open Go.RowKit Go.Shelf Go.Maps

/-- What a step leaves, what it answers. -/
def nx (st : Ds) (k : Nat) (n m : ByteArray) (b : List Nat) : Ds := stepS st (ownE st k n m b) (doS st k n m b)
def ans (st : Ds) (k : Nat) (n m : ByteArray) (b : List Nat) : Int := stepE st (ownE st k n m b)
/-- A disk at D, all of it made since w0. -/
def At (w0 w : World) (D : Nat) (st : Ds) : Prop := Below w0.heap.size w0 w ∧ ∃ φ : Nat → Prop, DK w φ D st ∧ ∀ x, φ x → w0.heap.size ≤ x
def SPost (w0 : World) (D : Nat) (st : Ds) (k : Nat) (n m : ByteArray) (b : List Nat) (e : Ending) (w' : World) : Prop := e = .returned (.int .i64 (ans st k n m b)) ∧ At w0 w' D (nx st k n m b)
section
variable {w0 w w' : World} {D : Nat} {st : Ds}
theorem At.below (h : At w0 w D st) (k : Below w.heap.size w w') : At w0 w' D st := by
  obtain ⟨h1, φ, h2, h3⟩ := h
  exact ⟨h1.trans (k.mono h1.size), φ, h2.below k (Nat.le_refl _), h3⟩
theorem At.turn {st' : Ds} {φ : Nat → Prop} (h1 : Below w0.heap.size w0 w) (h3 : ∀ x, φ x → w0.heap.size ≤ x) (hd : DK w' (wid φ w w') D st') (k : Kp φ w w') : At w0 w' D st' :=
  ⟨h1.trans (k.below h1.size fun x hx hp => by have := h3 x hp; omega), _, hd, fun x hx => by
    rcases hx with hx | hx
    · exact h3 x hx
    · exact Nat.le_trans h1.size hx.1⟩
theorem At.inv (h : At w0 w D st) : Inv st := by
  obtain ⟨_, φ, h2, _⟩ := h
  exact h2.inv
theorem At.new (q : Int) (h : Below w0.heap.size w0 w) : Calls Try.prog 12 #[.int .i64 q] w fun e w' => ∃ D, e = .returned (.pointer (some ⟨D, 0, none⟩)) ∧ At w0 w' D (newD q) := by
  refine (new12 q w).mono ?_
  rintro e w' ⟨D, rfl, hd, hb⟩
  exact ⟨D, rfl, h.trans (hb.mono h.size), _, hd, fun x hx => Nat.le_trans h.size hx.1⟩
theorem At.create (h : At w0 w D st) (n : ByteArray) (hs : n.size ≤ 1000000000000000) (hst : st.steps ≤ 1000000000) (hl : st.acts.length ≤ 1000000) (hdl : st.dir.length ≤ 1000000) :
    Calls Try.prog 13 #[.pointer (some ⟨D, 0, none⟩), .string n] w (SPost w0 D st 0 n noname []) := by
  obtain ⟨h1, φ, h2, h3⟩ := h
  refine (create13 D n st φ w h2 hs hst hl hdl).mono ?_
  rintro e w' ⟨rfl, hd, hk⟩
  exact ⟨rfl, At.turn h1 h3 hd hk⟩
theorem At.append (h : At w0 w D st) (n : ByteArray) (A : Option Addr) (c : Nat) (b : List Nat) (hr : Rd w w.heap.size A b.length (b.map bv)) (hblt : ∀ y ∈ b, y < 256) (hbl : b.length ≤ 1000000000) (hs : n.size ≤ 1000000000000000) (hst : st.steps ≤ 1000000000)
    (hu : usedL st.fs st.dir ≤ 1000000000) (hb : ∀ x ∈ st.fs, x.b.length + b.length ≤ 1000000000) :
    Calls Try.prog 18 #[.pointer (some ⟨D, 0, none⟩), .string n, .slice A b.length c] w (SPost w0 D st 1 n noname b) := by
  obtain ⟨h1, φ, h2, h3⟩ := h
  refine (append18 D n A c w.heap.size b st φ w h2 hr (Nat.le_refl _) hblt hbl hs hst hu hb).mono ?_
  rintro e w' ⟨rfl, hd, hk⟩
  exact ⟨rfl, At.turn h1 h3 hd hk⟩
theorem At.sync (h : At w0 w D st) (n : ByteArray) (hs : n.size ≤ 1000000000000000) (hst : st.steps ≤ 1000000000) (hb : ∀ x ∈ st.fs, x.b.length ≤ 1000000000) :
    Calls Try.prog 15 #[.pointer (some ⟨D, 0, none⟩), .string n] w (SPost w0 D st 2 n noname []) := by
  obtain ⟨h1, φ, h2, h3⟩ := h
  refine (sync15 D n st φ w h2 hs hst hb).mono ?_
  rintro e w' ⟨rfl, hd, hk⟩
  exact ⟨rfl, At.turn h1 h3 hd hk⟩
theorem At.rename (h : At w0 w D st) (n m : ByteArray) (hs : n.size ≤ 1000000000000000) (hsm : m.size ≤ 1000000000000000) (hst : st.steps ≤ 1000000000) (hl : st.acts.length ≤ 1000000) (hdl : st.dir.length ≤ 1000000) :
    Calls Try.prog 28 #[.pointer (some ⟨D, 0, none⟩), .string n, .string m] w (SPost w0 D st 3 n m []) := by
  obtain ⟨h1, φ, h2, h3⟩ := h
  refine (rename28 D n m st φ w h2 hs hsm hst hl hdl).mono ?_
  rintro e w' ⟨rfl, hd, hk⟩
  exact ⟨rfl, At.turn h1 h3 hd hk⟩
theorem At.remove (h : At w0 w D st) (n : ByteArray) (hs : n.size ≤ 1000000000000000) (hst : st.steps ≤ 1000000000) (hl : st.acts.length ≤ 1000000) (hdl : st.dir.length ≤ 1000000) :
    Calls Try.prog 21 #[.pointer (some ⟨D, 0, none⟩), .string n] w (SPost w0 D st 4 n noname []) := by
  obtain ⟨h1, φ, h2, h3⟩ := h
  refine (remove21 D n st φ w h2 hs hst hl hdl).mono ?_
  rintro e w' ⟨rfl, hd, hk⟩
  exact ⟨rfl, At.turn h1 h3 hd hk⟩
theorem At.syncdir (h : At w0 w D st) (hst : st.steps ≤ 1000000000) :
    Calls Try.prog 22 #[.pointer (some ⟨D, 0, none⟩)] w (SPost w0 D st 5 noname noname []) := by
  obtain ⟨h1, φ, h2, h3⟩ := h
  refine (sdir22 D st φ w h2 hst).mono ?_
  rintro e w' ⟨rfl, hd, hk⟩
  exact ⟨rfl, At.turn h1 h3 hd hk⟩
theorem At.read (h : At w0 w D st) (n : ByteArray) (hs : n.size ≤ 1000000000000000) (hb : ∀ x ∈ st.fs, x.b.length ≤ 1000000000) :
    Calls Try.prog 19 #[.pointer (some ⟨D, 0, none⟩), .string n] w fun e w' => At w0 w' D st ∧ ReadPost w st n e w' := by
  obtain ⟨h1, φ, h2, h3⟩ := h
  refine (read19 D n st φ w h2 hs hb).mono ?_
  rintro e w' hp
  have hp' := hp
  obtain ⟨v, _, _, hb'⟩ := hp
  exact ⟨At.below ⟨h1, φ, h2, h3⟩ hb', hp'⟩
theorem At.steps (h : At w0 w D st) : Calls Try.prog 27 #[.pointer (some ⟨D, 0, none⟩)] w fun e w' => e = .returned (.int .i64 st.steps) ∧ w' = w := by
  obtain ⟨h1, φ, h2, h3⟩ := h
  exact steps27 D st φ w h2
theorem At.on (h : At w0 w D st) : Calls Try.prog 26 #[.pointer (some ⟨D, 0, none⟩)] w fun e w' => e = .returned (.bool (!st.off)) ∧ w' = w := by
  obtain ⟨h1, φ, h2, h3⟩ := h
  exact on26 D st φ w h2
/-- A crash by numbers that lie apart: before w0, or in a block g that is no part of the disk. -/
theorem At.crash (h : At w0 w D st) (A : Option Addr) (n c : Nat) (keep : List Int) (hkp : Ik w (fun x => x < w0.heap.size) A n keep) (hnc : n ≤ c) (hcm : c ≤ maxLen) (hL : st.sure.length + st.acts.length ≤ 1000000) (hb : ∀ x ∈ st.fs, x.b.length ≤ 1000000000) :
    Calls Try.prog 23 #[.pointer (some ⟨D, 0, none⟩), .slice A n c] w fun e w' => e = .returned (.tuple #[]) ∧ At w0 w' D (Go.Proofs.Ytedjfbkfaioihaa.crash st keep) := by
  obtain ⟨h1, φ, h2, h3⟩ := h
  refine (crash23 D A n c keep _ st φ w h2 hkp hnc hcm (fun x hx => ⟨fun hp => by have := h3 x hp; omega, Nat.lt_of_lt_of_le hx h1.size⟩) hL hb).mono ?_
  rintro e w' ⟨rfl, hd, hk⟩
  exact ⟨rfl, At.turn h1 h3 hd hk⟩
/-- A crash by numbers in a new block. -/
theorem At.crash_new (h : At w0 w D st) (W : World) (g n : Nat) (keep : List Int) (hb' : Below w.heap.size w W) (hA : Arr W g 3 (keep.map (Value.int .i64)).toArray) (hg : w.heap.size ≤ g) (hn : n = keep.length) (hcm : n ≤ maxLen) (hL : st.sure.length + st.acts.length ≤ 1000000) (hb : ∀ x ∈ st.fs, x.b.length ≤ 1000000000) :
    Calls Try.prog 23 #[.pointer (some ⟨D, 0, none⟩), .slice (some ⟨g, 0, none⟩) n n] W fun e w' => e = .returned (.tuple #[]) ∧ At w0 w' D (Go.Proofs.Ytedjfbkfaioihaa.crash st keep) := by
  obtain ⟨h1, φ, h2, h3⟩ := h
  have hlt := hA.lt
  refine (crash23 D _ n n keep (fun x => x = g) st φ W (h2.below hb' (Nat.le_refl _)) ⟨hn.symm, fun _ => ⟨g, 0, rfl, rfl, hA.lt, fun j x hj => ?_⟩⟩ (Nat.le_refl _) hcm (fun x hx => ⟨fun hp => by have := h2.1 x hp; omega, by omega⟩) hL hb).mono ?_
  · rw [Nat.zero_add]
    exact hA.at_ (by simp [hj])
  · rintro e w' ⟨rfl, hd, hk⟩
    exact ⟨rfl, At.turn (h1.trans (hb'.mono h1.size)) h3 hd hk⟩
end

/-! ### the document's example -/
def nA : ByteArray := ⟨#[97]⟩
def ex1 : Ds := nx (newD 1000) 0 nA noname []
def ex2 : Ds := nx ex1 1 nA noname [97, 98, 99]
def ex3 : Ds := nx ex2 2 nA noname []
def ex4 : Ds := nx ex3 5 noname noname []
def ex5 : Ds := nx ex4 1 nA noname [100, 101]
def ex6 : Ds := crash ex5 [1, 1]
theorem ex_ok : readE ex6 nA = 0 ∧ readB ex6 nA = [97, 98, 99, 193] ∧ ex6.steps = 5 := by
  refine ⟨by decide, by decide, by decide⟩
end Go.Proofs.Ytedjfbkfaioihaa
