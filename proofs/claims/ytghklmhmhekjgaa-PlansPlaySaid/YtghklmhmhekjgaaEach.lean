/- A loop over a function whose body never leaves early, where the iterator keeps one row of its own between the rounds, and the body may write a map. No conditions. -/
import Derived.RangeFuncNested
import Derived.RangeFuncBound
import Derived.RangeFuncCalls
import Derived.RangeFuncLeaves
import Derived.Shelf.Abstract
import Derived.Shelf.RegionOpen
import Derived.WalkKit
import Derived.OwnWalkIn
import Derived.TacticsInMore
import Derived.LoopNIn
import Derived.LoopIn
namespace Go.Proofs.Ytghklmhmhekjgaa
open Go.RowKit

/-- The record of the loop. -/
def lrec (fn : FuncId) (tm : Array Value) (t : Tmp) (asg bd : Code) (D : Nat) (st : LoopState) : Loop := { state := st, pending := none, fn := fn, tmps := tm, params := #[t], assign := asg, body := bd, defers := D }

/-- Between two rounds. -/
structure Btw (I : Nat → Nat → World → Prop) (l D : Nat) (R : LoopState → Loop) (x k : Nat) (W : World) : Prop where
  i : I x k W
  L : W.heap[l]? = some (.loop (R .ready))
  K : W.heap[D]? = some (.deferred (some []))

theorem lt_of_cells {W : World} {x : Nat} (h : ∃ cs t, W.heap[x]? = some (.cells cs t (0, 0)) ∧ (t = 9 ∨ t = 54)) : x < W.heap.size := by
  obtain ⟨cs, t, h, _⟩ := h
  exact (Array.getElem?_eq_some_iff.1 h).1

/-- What the iterator owes: it hands out N values in their order; x is its own row. -/
def Hands (F : Fence) (d : Nat) (P : Program) (gf : Nat) (lb : Array Value) (enc : Nat → Value) (N : Nat) (I : Nat → Nat → World → Prop) (w : World) : Prop :=
  ∀ (l : Nat) (J : Nat → Nat → World → Prop) (W : World), Below w.heap.size w W → l < W.heap.size →
    (∀ x k W1, J x k W1 → k < N → YieldAt F (d - 1) P l #[enc k] W1 fun e W' => e = .returned (.bool true) ∧ J x (k + 1) W' ∧ W'.heap[x]? = W1.heap[x]?) →
    (∀ x W1, Below W.heap.size W W1 → W.heap.size ≤ x → (∃ cs t, W1.heap[x]? = some (.cells cs t (0, 0)) ∧ (t = 9 ∨ t = 54)) → J x 0 W1) → (∀ x k W1, J x k W1 → I x k W1) →
    CallsIn F d P gf (#[.func (.yield l) #[] #[]] ++ lb) W fun e W' => (∃ v, e = .returned v) ∧ ∃ x, J x N W'

/-- What a round leaves. -/
structure RPost (B : Nat) (I : Nat → Nat → World → Prop) (x k : Nat) (W W' : World) : Prop where
  f : KeepsFrom B W W'
  h : W'.heap[x]? = W.heap[x]?
  i : I x (k + 1) W'

theorem wpIn_rangeEach {F : Fence} {d : Nat} {P : Program} {g : Operand} {t : Tmp} {asg bd : Code} {Q : Exit → Act → World → Prop} {a : Act} {w : World}
    (hro : F.round = none) (h1 : 1 ≤ d) (gf : Nat) (lb : Array Value) (hg : a.eval g = .func (.func gf) #[] lb) (hFg : F.fn gf) (eg : ∀ args w, (callFunc gf args).run P w = .ok (.enter gf args) w)
    (enc : Nat → Value) (N : Nat) (I : Nat → Nat → World → Prop) (Ax : Nat → Act → World → Prop)
    (hI : ∀ x k W r o o', I x k W → w.heap.size ≤ r → W.heap[r]? = some o → o.isCells = false → I x k (W.putObj r o'))
    (hAx : ∀ k a' W r o o', Ax k a' W → w.heap.size ≤ r → W.heap[r]? = some o → o.isCells = false → Ax k a' (W.putObj r o'))
    (h0 : ∀ x W, Below w.heap.size w W → w.heap.size ≤ x → (∃ cs t, W.heap[x]? = some (.cells cs t (0, 0)) ∧ (t = 9 ∨ t = 54)) → I x 0 W)
    (hiter : Hands F (d - 1) P gf lb enc N I w)
    (hassign : ∀ (l x k : Nat) (W : World) (K : Act → World → Prop), w.heap.size ≤ l → I x k W → k < N → (∀ a' W', KeepsFrom w.heap.size W W' → W'.heap[x]? = W.heap[x]? → I x k W' → Ax k a' W' → K a' W') →
      asg.wpIn (F.inRound l) (d - 1 - 1) P (Exit.then K (fun _ _ _ => False)) { tmps := a.tmps.setIfInBounds t (enc k), defers := [] } W)
    (hbody : ∀ (l x k : Nat) (a' : Act) (W : World), w.heap.size ≤ l → I x k W → Ax k a' W → k < N → bd.wpIn (F.inRound l) (d - 1 - 1) P (fun e _ W' => e = .normal ∧ RPost w.heap.size I x k W W') a' W)
    (hdone : ∀ (D x : Nat) (W : World), w.heap.size ≤ D → I x N W → W.heap[D]? = some (.deferred (some [])) → Q .normal { a with defers := { target := .collected D, args := #[] } :: a.defers } W) :
    (Code.rangeFunc g #[t] asg bd).wpIn F d P Q a w := by
  refine wpIn_rangeFunc fun fn hfn => ?_
  rw [hro]
  obtain ⟨D, hD⟩ : ∃ D, D = w.heap.size := ⟨_, rfl⟩
  obtain ⟨R, hR⟩ : ∃ R, R = lrec fn a.tmps t asg bd D := ⟨_, rfl⟩
  obtain ⟨W1, hW1⟩ : ∃ W1, W1 = (w.alloc (.deferred (some []))).alloc (.loop (R .ready)) := ⟨_, rfl⟩
  have hL1 : W1.heap[D + 1]? = some (.loop (R .ready)) := by
    rw [hW1, hD]; have := World.alloc_heap_new (w.alloc (.deferred (some []))) (.loop (R .ready)); rwa [World.size_alloc] at this
  have hK1 : W1.heap[D]? = some (.deferred (some [])) := by
    rw [hW1, hD]; exact (Below.heap_alloc _ _ _ (by simp)).trans (World.alloc_heap_new w _)
  have hb1 : Below w.heap.size w W1 := by rw [hW1]; exact ((Below.refl _ w).alloc (Nat.le_refl _) _).alloc (by simp) _
  have hlt1 : D + 1 < W1.heap.size := (Array.getElem?_eq_some_iff.1 hL1).1
  have hrun := run_enterLoop_outer (P := P) (w := w) fn a.tmps #[t] asg bd
  refine ⟨D + 1, [{ target := .collected D, args := #[] }], W1, { target := .fn (.func gf) lb, args := #[.func (.yield (D + 1)) #[] #[]] }, W1, gf, #[.func (.yield (D + 1)) #[] #[]] ++ lb, W1, ?_, ?_, ?_, ?_, fun _ => h1, ?_⟩
  · rw [hW1, hR, hD]; exact hrun
  · simp only [resolve, hg]
    simp [go_sem]
  · intro f' hf'; simp [Target.leads] at hf'; subst hf'; exact hFg
  · simp [invoke, go_sem, eg]
  · refine (hiter (D + 1) (Btw I (D + 1) D R) W1 hb1 hlt1 ?_ ?_ (fun x k W1 h => h.i)).mono ?_
    · intro x k W hs hk
      have hlt : D + 1 < W.heap.size := (Array.getElem?_eq_some_iff.1 hs.L).1
      have hy := run_yield (P := P) (args := #[enc k]) hs.L (by rw [hR]; rfl)
      rw [hR] at hy
      refine ⟨fn, _, asg, bd, hy, roundIn_of_wpIn hfn ?_⟩
      have hz : ((lrec fn a.tmps t asg bd D LoopState.ready).params.zip #[enc k]).foldl (fun tmps (x : Tmp × Value) => tmps.setIfInBounds x.1 x.2) (lrec fn a.tmps t asg bd D LoopState.ready).tmps = a.tmps.setIfInBounds t (enc k) := by
        simp [lrec]
      rw [show (fun (tmps : Array Value) (x : Tmp × Value) => match x with | (t, a) => tmps.setIfInBounds t a) = fun tmps x => tmps.setIfInBounds x.1 x.2 from rfl, hz]
      refine hassign (D + 1) x k W _ (by omega) hs.i hk ?_
      intro a' Wa hkf hxa hia hax
      have hLa := hkf.same _ _ (by omega) hs.L rfl
      have hKa := hkf.same _ _ (by omega) hs.K rfl
      have hlta : D + 1 < Wa.heap.size := (Array.getElem?_eq_some_iff.1 hLa).1
      refine ⟨_, run_beginRound hLa (by rw [hR]; rfl), ?_⟩
      obtain ⟨W2, hW2⟩ : ∃ W2, W2 = Wa.putObj (D + 1) (.loop { R .ready with state := .busy }) := ⟨_, rfl⟩
      have hL2 : W2.heap[D + 1]? = some (.loop { R .ready with state := .busy }) := by rw [hW2]; exact World.putObj_heap_same hlta
      have hK2 : W2.heap[D]? = some (.deferred (some [])) := by rw [hW2]; exact (World.putObj_heap_other (by omega)).trans hKa
      have hi2 : I x k W2 := by rw [hW2]; exact hI _ _ _ _ _ _ hia (by omega) hLa rfl
      have ha2 : Ax k a' W2 := by rw [hW2]; exact hAx _ _ _ _ _ _ hax (by omega) hLa rfl
      rw [← hW2]
      by_cases hxl : x = D + 1
      · refine wpIn_mono (hbody (D + 1) x k a' W2 (by omega) hi2 ha2 hk) ?_
        rintro e a3 W3 ⟨rfl, hk3, hx3, hi3⟩
        have hL3 := hk3.same _ _ (by omega) hL2 rfl
        have hK3 := hk3.same _ _ (by omega) hK2 rfl
        have hlt3 : D + 1 < W3.heap.size := (Array.getElem?_eq_some_iff.1 hL3).1
        refine ⟨_, _, run_endRound none hL3, rfl, ⟨hI _ _ _ _ _ _ hi3 (by omega) hL3 rfl, ?_, (World.putObj_heap_other (by omega)).trans hK3⟩, ?_⟩
        · rw [World.putObj_heap_same hlt3, hR]; rfl
        · rw [hxl, World.putObj_heap_same hlt3, hs.L, hR]; rfl
      · have hx2 : W2.heap[x]? = W.heap[x]? := by rw [hW2]; exact (World.putObj_heap_other (by omega)).trans hxa
        refine wpIn_mono (hbody (D + 1) x k a' W2 (by omega) hi2 ha2 hk) ?_
        rintro e a3 W3 ⟨rfl, hk3, hx3, hi3⟩
        have hL3 := hk3.same _ _ (by omega) hL2 rfl
        have hK3 := hk3.same _ _ (by omega) hK2 rfl
        have hlt3 : D + 1 < W3.heap.size := (Array.getElem?_eq_some_iff.1 hL3).1
        refine ⟨_, _, run_endRound none hL3, rfl, ⟨hI _ _ _ _ _ _ hi3 (by omega) hL3 rfl, ?_, (World.putObj_heap_other (by omega)).trans hK3⟩, ?_⟩
        · rw [World.putObj_heap_same hlt3, hR]; rfl
        · exact (World.putObj_heap_other (by omega)).trans (hx3.trans hx2)
    · intro x W hB hx hx2
      have h2 : ∀ i, i < W1.heap.size → W.heap[i]? = W1.heap[i]? := hB.block
      exact ⟨h0 x W (hb1.trans (hB.mono hb1.size)) (Nat.le_trans hb1.size hx) hx2, (h2 _ hlt1).trans hL1, (h2 _ (by omega)).trans hK1⟩
    · rintro e W2 ⟨⟨v, rfl⟩, x, hs⟩
      exact ⟨none, _, by have := run_endLoop (P := P) hs.L (by rw [hR]; simp [lrec]); rw [hR] at this; exact this, hdone D x _ (by omega) (hI _ _ _ _ _ _ hs.i (by omega) hs.L rfl) ((World.putObj_heap_other (by omega)).trans hs.K)⟩
end Go.Proofs.Ytghklmhmhekjgaa
