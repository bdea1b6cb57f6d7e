/- What the iterator of chunk.pieces hands to each round: the pieces of a list of samples, 120 at a time. Conditions: at most 10^6 samples. -/
import Derived.RangeFuncNested
import Derived.RangeFuncBound
import Derived.RangeFuncCalls
import Derived.RangeFuncLeaves
import Derived.Shelf.Abstract
import Derived.Shelf.RegionOpen
import Derived.WalkKit
import Derived.OwnWalkIn
import Derived.TacticsInMore
import Derived.LoopNIn
import Derived.LoopIn
import Derived.Test.YtnbamngancchmaaProg
import Derived.Test.YtnbamngancchmaaCols
namespace Go.Proofs.Ytnbamngancchmaa
open Go.RowKit Go.Shelf
attribute [local go_sem] Oper.semAt_some

/-- The k-th piece of a slice of n samples at (b, off). -/
def pv (b off n k : Nat) : Value := .slice (some ⟨b, off + 240 * k, none⟩) (min (n - 120 * k) 120) (min (n - 120 * k) 120)
/-- How many pieces. -/
def np (n : Nat) : Nat := (n + 119) / 120
/-- What is left, read off the box. -/
def leftB (B : Nat) (W : World) : Nat := match W.cell? ⟨B, 0, none⟩ with | some (.slice _ n _) => n | _ => 0
theorem leftB_eq {B : Nat} {W : World} {A : Option Addr} {n c : Nat} (h : W.cell? ⟨B, 0, none⟩ = some (.slice A n c)) : leftB B W = n := by unfold leftB; rw [h]

set_option maxRecDepth 100000 in
set_option maxHeartbeats 1000000 in
theorem pieces1_in (F : Fence) (d : Nat) (h72 : F.fn 72) (hro : F.round = none) (hd : 1 ≤ d) (l Bn b off n c : Nat) (A : Option Addr) (J : Nat → World → Prop)
    (hY : ∀ k W, J k W → 120 * k < n → YieldAt F (d - 1) Try.prog l #[pv b off n k] W fun e W' => e = .returned (.bool true) ∧ J (k + 1) W' ∧ W'.heap[Bn]? = W.heap[Bn]?)
    (hS : ∀ k W v, J k W → J k (W.setCell ⟨Bn, 0, none⟩ v))
    (W : World) (hBn : Boxed W Bn 38 (.slice A n c)) (hA : 0 < n → A = some ⟨b, off, none⟩) (hc : n ≤ c) (hc2 : c ≤ maxLen) (h0 : J 0 W) :
    CallsIn F d Try.prog 72 #[.func (.yield l) #[] #[], .pointer (some ⟨Bn, 0, none⟩)] W fun e W' => (∃ v, e = .returned v) ∧ J (np n) W' := by
  refine callsIn_of_wp Try.func72 rfl h72 ?_ hro
  simp only [Try.ntmps72, List.size_toArray, List.length_cons, List.length_nil, Nat.reduceAdd, Nat.reduceSub, Array.replicate_succ, Array.replicate_zero, List.push_toArray, List.append_toArray, List.nil_append, List.cons_append]
  gi_wp2
  gi_loopw [3] (fun _ wr => ∃ (k : Nat) (A' : Option Addr) (c' : Nat), Boxed wr Bn 38 (.slice A' (n - 120 * k) c') ∧ (120 * k < n → A' = some ⟨b, off + 240 * k, none⟩) ∧ n - 120 * k ≤ c' ∧ c' ≤ maxLen ∧ J k wr ∧ k ≤ np n)
    (fun _ wr => leftB Bn wr)
  case atStart => exact ⟨0, A, c, by simpa using hBn, by simpa using hA, by simpa using hc, hc2, h0, Nat.zero_le _⟩
  case round =>
    obtain ⟨k, A', c', hb, ha, hc', hm', hj, hk⟩ := hrel
    by_cases hlt : 120 * k < n
    · obtain rfl := ha hlt
      have hcell := hb.cell
      have hfr := hb.frozen
      obtain ⟨m, hm⟩ : ∃ m, m = n - 120 * k := ⟨_, rfl⟩
      have hpv : pv b off n k = .slice (some ⟨b, off + 240 * k, none⟩) (min m 120) (min m 120) := by rw [hm]; rfl
      obtain ⟨fn, tmps, assign, body, hy, hR⟩ := hY k wr hj hlt
      rw [hpv] at hy
      rw [← hm] at hcell hc' hb
      have HM := Lib.hid hm
      have hpos : 0 < m := by omega
      have hJS : Hid (J = J) := rfl
      by_cases h120 : m ≤ 120
      · have hmin : min m 120 = m := by omega
        rw [hmin] at hy
        clear hpv hm
        gi_wp2
        refine hR.mono ?_
        rintro e W3 ⟨rfl, hJ3, hk3⟩
        have hb3 : Boxed W3 Bn 38 (.slice (some ⟨b, off + 240 * k, none⟩) m c') := hk3.trans hb
        have hcell3 := hb3.cell
        have hfr3 := hb3.frozen
        by_cases hcap : c' = m
        · subst hcap
          gi_wp2
          go_roundw
          case rel => have hm := HM.out; exact ⟨k + 1, _, 0, by rw [show n - 120 * (k + 1) = 0 by omega]; exact hb3.set _, fun h => by omega, by omega, by omega, hS _ _ _ hJ3, by unfold np at hk ⊢; omega⟩
          case measure => rw [leftB_eq (hb3.set (.slice (some ⟨b, off + 240 * k, none⟩) 0 0)).cell, leftB_eq hcell]; exact hpos
        · have hcap2 : m < c' := by omega
          gi_wp2
          go_roundw
          case rel => have hm := HM.out; exact ⟨k + 1, _, c' - m, by rw [show n - 120 * (k + 1) = 0 by omega]; exact hb3.set _, fun h => by omega, by omega, by omega, hS _ _ _ hJ3, by unfold np at hk ⊢; omega⟩
          case measure => rw [leftB_eq (hb3.set (.slice (some ⟨b, off + 240 * k + m * 2, none⟩) 0 (c' - m))).cell, leftB_eq hcell]; exact hpos
      · have hmin : min m 120 = 120 := by omega
        have h121 : 120 < m := by omega
        rw [hmin] at hy
        clear hpv hm h120
        gi_wp2
        refine hR.mono ?_
        rintro e W3 ⟨rfl, hJ3, hk3⟩
        have hb3 : Boxed W3 Bn 38 (.slice (some ⟨b, off + 240 * k, none⟩) m c') := hk3.trans hb
        have hcell3 := hb3.cell
        have hfr3 := hb3.frozen
        gi_wp2
        go_roundw
        case rel => have hm := HM.out; exact ⟨k + 1, _, c' - 120, by rw [show n - 120 * (k + 1) = m - 120 by omega]; exact hb3.set _, fun h => by rw [show off + 240 * (k + 1) = off + 240 * k + 240 by omega], by omega, by omega, hS _ _ _ hJ3, by unfold np at hk ⊢; omega⟩
        case measure => rw [leftB_eq (hb3.set (.slice (some ⟨b, off + 240 * k + 240, none⟩) (m - 120) (c' - 120))).cell, leftB_eq hcell]; omega
    · have hz : n - 120 * k = 0 := by omega
      rw [hz] at hb
      have hcell := hb.cell
      have hkk : k = np n := by unfold np at hk ⊢; omega
      gi_wp2
      go_end0
      subst hkk
      exact ⟨⟨_, rfl⟩, hj⟩

set_option maxHeartbeats 1000000 in
theorem pieces_in (F : Fence) (d : Nat) (h54 : F.fn 54) (hro : F.round = none) (A : Option Addr) (n c : Nat) (w : World) :
    CallsIn F d Try.prog 54 #[.slice A n c] w fun e w' => e = .returned (.func (.func 72) #[] #[.pointer (some ⟨w.heap.size, 0, none⟩)]) ∧ w' = w.alloc (.cells #[.slice A n c] 38) := by
  refine callsIn_of_wp Try.func54 rfl h54 ?_ hro
  simp only [Try.ntmps54, List.size_toArray, List.length_cons, List.length_nil, Nat.reduceAdd, Nat.reduceSub, Array.replicate_succ, Array.replicate_zero, List.push_toArray, List.append_toArray, List.nil_append, List.cons_append]
  gi_wp2
  go_ret
  exact ⟨rfl, rfl⟩
end Go.Proofs.Ytnbamngancchmaa
