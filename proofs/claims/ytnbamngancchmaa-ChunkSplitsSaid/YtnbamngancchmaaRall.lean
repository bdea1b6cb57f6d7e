/- A loop over a function whose body never leaves early, where the iterator keeps its state in one cell block of its own. No conditions. -/
import Derived.RangeFuncNested
import Derived.RangeFuncBound
import Derived.RangeFuncCalls
import Derived.RangeFuncLeaves
import Derived.Shelf.Abstract
import Derived.Shelf.RegionOpen
import Derived.WalkKit
import Derived.OwnWalkIn
import Derived.TacticsInMore
import Derived.LoopNIn
import Derived.LoopIn
namespace Go.Proofs.Ytnbamngancchmaa
open Go.RowKit

/-- The record of the loop. -/
def lrec (fn : FuncId) (tm : Array Value) (t : Tmp) (asg bd : Code) (D : Nat) (st : LoopState) : Loop := { state := st, pending := none, fn := fn, tmps := tm, params := #[t], assign := asg, body := bd, defers := D }

/-- Between two rounds. -/
structure Btw (I : Nat → World → Prop) (l D : Nat) (R : LoopState → Loop) (k : Nat) (W : World) : Prop where
  i : I k W
  L : W.heap[l]? = some (.loop (R .ready))
  K : W.heap[D]? = some (.deferred (some []))

theorem wpIn_rangeAll {F : Fence} {d : Nat} {P : Program} {g : Operand} {t : Tmp} {asg bd : Code} {Q : Exit → Act → World → Prop} {a : Act} {w : World}
    (hro : F.round = none) (h1 : 1 ≤ d) (gf : Nat) (lb : Array Value) (hg : a.eval g = .func (.func gf) #[] lb) (hFg : F.fn gf) (eg : ∀ args w, (callFunc gf args).run P w = .ok (.enter gf args) w)
    (enc : Nat → Value) (N Bn : Nat) (hB : Bn < w.heap.size) (I : Nat → World → Prop) (a₁ : Nat → Act)
    (hI : ∀ k W r o o', I k W → w.heap.size ≤ r → W.heap[r]? = some o → o.isCells = false → I k (W.putObj r o'))
    (hIS : ∀ k W v, I k W → I k (W.setCell ⟨Bn, 0, none⟩ v))
    (h0 : ∀ X Y, I 0 ((w.alloc X).alloc Y))
    (hiter : ∀ (l : Nat) (J : Nat → World → Prop) (W : World), Below w.heap.size w W →
      (∀ k W1, J k W1 → k < N → YieldAt F (d - 1 - 1) P l #[enc k] W1 fun e W' => e = .returned (.bool true) ∧ J (k + 1) W' ∧ W'.heap[Bn]? = W1.heap[Bn]?) →
      (∀ k W1 v, J k W1 → J k (W1.setCell ⟨Bn, 0, none⟩ v)) → J 0 W →
      CallsIn F (d - 1) P gf (#[.func (.yield l) #[] #[]] ++ lb) W fun e W' => (∃ v, e = .returned v) ∧ J N W')
    (hassign : ∀ (l k : Nat) (W : World) (K : Act → World → Prop), K (a₁ k) W → asg.wpIn (F.inRound l) (d - 1 - 1) P (Exit.then K (fun _ _ _ => False)) { tmps := a.tmps.setIfInBounds t (enc k), defers := [] } W)
    (hbody : ∀ (l k : Nat) (W : World), I k W → k < N → w.heap.size ≤ W.heap.size → bd.wpIn (F.inRound l) (d - 1 - 1) P (fun e _ W' => e = .normal ∧ KeepsOthers W W' ∧ W'.heap[Bn]? = W.heap[Bn]? ∧ I (k + 1) W') (a₁ k) W)
    (hdone : ∀ (D : Nat) (W : World), w.heap.size ≤ D → I N W → W.heap[D]? = some (.deferred (some [])) → Q .normal { a with defers := { target := .collected D, args := #[] } :: a.defers } W) :
    (Code.rangeFunc g #[t] asg bd).wpIn F d P Q a w := by
  refine wpIn_rangeFunc fun fn hfn => ?_
  rw [hro]
  obtain ⟨D, hD⟩ : ∃ D, D = w.heap.size := ⟨_, rfl⟩
  obtain ⟨R, hR⟩ : ∃ R, R = lrec fn a.tmps t asg bd D := ⟨_, rfl⟩
  obtain ⟨W1, hW1⟩ : ∃ W1, W1 = (w.alloc (.deferred (some []))).alloc (.loop (R .ready)) := ⟨_, rfl⟩
  have hL1 : W1.heap[D + 1]? = some (.loop (R .ready)) := by
    rw [hW1, hD]; have := World.alloc_heap_new (w.alloc (.deferred (some []))) (.loop (R .ready)); rwa [World.size_alloc] at this
  have hK1 : W1.heap[D]? = some (.deferred (some [])) := by
    rw [hW1, hD]; exact (Below.heap_alloc _ _ _ (by simp)).trans (World.alloc_heap_new w _)
  have hb1 : Below w.heap.size w W1 := by rw [hW1]; exact ((Below.refl _ w).alloc (Nat.le_refl _) _).alloc (by simp) _
  have hst : Btw I (D + 1) D R 0 W1 := ⟨by rw [hW1]; exact h0 _ _, hL1, hK1⟩
  have hrun := run_enterLoop_outer (P := P) (w := w) fn a.tmps #[t] asg bd
  refine ⟨D + 1, [{ target := .collected D, args := #[] }], W1, { target := .fn (.func gf) lb, args := #[.func (.yield (D + 1)) #[] #[]] }, W1, gf, #[.func (.yield (D + 1)) #[] #[]] ++ lb, W1, ?_, ?_, ?_, ?_, fun _ => h1, ?_⟩
  · rw [hW1, hR, hD]; exact hrun
  · simp only [resolve, hg]
    simp [go_sem]
  · intro f' hf'; simp [Target.leads] at hf'; subst hf'; exact hFg
  · simp [invoke, go_sem, eg]
  · refine (hiter (D + 1) (Btw I (D + 1) D R) W1 hb1 ?_ ?_ hst).mono ?_
    · intro k W hs hk
      have hlt : D + 1 < W.heap.size := (Array.getElem?_eq_some_iff.1 hs.L).1
      have hy := run_yield (P := P) (args := #[enc k]) hs.L (by rw [hR]; rfl)
      rw [hR] at hy
      refine ⟨fn, _, asg, bd, hy, roundIn_of_wpIn hfn ?_⟩
      have hz : ((lrec fn a.tmps t asg bd D LoopState.ready).params.zip #[enc k]).foldl (fun tmps (x : Tmp × Value) => tmps.setIfInBounds x.1 x.2) (lrec fn a.tmps t asg bd D LoopState.ready).tmps = a.tmps.setIfInBounds t (enc k) := by
        simp [lrec]
      rw [show (fun (tmps : Array Value) (x : Tmp × Value) => match x with | (t, a) => tmps.setIfInBounds t a) = fun tmps x => tmps.setIfInBounds x.1 x.2 from rfl, hz]
      refine hassign (D + 1) k W _ ?_
      refine ⟨_, run_beginRound hs.L (by rw [hR]; rfl), ?_⟩
      obtain ⟨W2, hW2⟩ : ∃ W2, W2 = W.putObj (D + 1) (.loop { R .ready with state := .busy }) := ⟨_, rfl⟩
      have hL2 : W2.heap[D + 1]? = some (.loop { R .ready with state := .busy }) := by rw [hW2]; exact World.putObj_heap_same hlt
      have hK2 : W2.heap[D]? = some (.deferred (some [])) := by rw [hW2]; exact (World.putObj_heap_other (by omega)).trans hs.K
      have hb2 : W2.heap[Bn]? = W.heap[Bn]? := by rw [hW2]; exact World.putObj_heap_other (by omega)
      have hi2 : I k W2 := by rw [hW2]; exact hI _ _ _ _ _ hs.i (by omega) hs.L rfl
      have hsz : w.heap.size ≤ W2.heap.size := by rw [hW2]; simp; omega
      rw [← hW2]
      refine wpIn_mono (hbody (D + 1) k W2 hi2 hk hsz) ?_
      rintro e a3 W3 ⟨rfl, hk3, hb3, hi3⟩
      have hL3 := hk3.same _ _ hL2 rfl
      have hK3 := hk3.same _ _ hK2 rfl
      have hlt3 : D + 1 < W3.heap.size := (Array.getElem?_eq_some_iff.1 hL3).1
      refine ⟨_, _, run_endRound none hL3, rfl, ⟨hI _ _ _ _ _ hi3 (by omega) hL3 rfl, ?_, (World.putObj_heap_other (by omega)).trans hK3⟩, ?_⟩
      · rw [World.putObj_heap_same hlt3, hR]; rfl
      · exact (World.putObj_heap_other (by omega)).trans (hb3.trans hb2)
    · intro k W v hs
      refine ⟨hIS k W v hs.i, ?_, ?_⟩
      · exact (Below.heap_setCell W ⟨Bn, 0, none⟩ v (D + 1) (by simp; omega)).trans hs.L
      · exact (Below.heap_setCell W ⟨Bn, 0, none⟩ v D (by simp; omega)).trans hs.K
    · rintro e W2 ⟨⟨v, rfl⟩, hs⟩
      exact ⟨none, _, by have := run_endLoop (P := P) hs.L (by rw [hR]; simp [lrec]); rw [hR] at this; exact this, hdone D _ (by omega) (hI _ _ _ _ _ hs.i (by omega) hs.L rfl) ((World.putObj_heap_other (by omega)).trans hs.K)⟩
end Go.Proofs.Ytnbamngancchmaa
