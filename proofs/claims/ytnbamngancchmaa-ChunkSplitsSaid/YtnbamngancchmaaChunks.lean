/- What the reference's Chunks answers: the pieces of a list of samples, each in memory of its own. Conditions: at most 10^6 samples. -/
import Derived.Test.YtnbamngancchmaaSplit
import Derived.Test.YtnbamngancchmaaCopy
namespace Go.Proofs.Ytnbamngancchmaa
open Go.RowKit PB

/-- One round: the row that was made is appended. -/
theorem chunks_step {W W1 w3 : World} {X : Obj} {base k : Nat} {v v' u : Value} {vs : List Value} {P : Nat → List (Int × Int)} (hrow : RwV W base v k vs P) (hbase : base ≤ W.heap.size)
    (hb : Below W.heap.size W W1) (hu : W1.ownsRow W.heap.size 43 2 u (P k).length (sc (P k))) (hown : w3.ownsRow base 38 1 v' (k + 1) (vs ++ [u])) (hg : (W1.alloc X).grownBy w3 v.ownBlock) :
    RwV w3 base v' (k + 1) (vs ++ [u]) P ∧ Below base W w3 := hrow.push hbase hb hu hown hg

set_option maxRecDepth 100000 in
set_option maxHeartbeats 2000000 in
theorem chunks_any (A : Option Addr) (n c B : Nat) (l : List (Int × Int)) (w : World) (hr : Rs2 w B A n l) (hB : B ≤ w.heap.size) (hn : n ≤ 1000000) (hc : n ≤ c) :
    Calls Try.prog 27 #[.slice A n c] w fun e w' => ∃ v vs, e = .returned v ∧ RwV w' w.heap.size v (np n) vs (pc l) ∧ Below w.heap.size w w' := by
  obtain ⟨i0, hi, hz0, hz1, hz2⟩ := info_parts Try.info38
  obtain ⟨i1, hi1, hy0, hy1, hy2⟩ := info_parts Try.info43
  go_enter Try.func27, Try.ntmps27
  go_wp2_with fail
  go_loopw [3, 4, 5] (fun x i _ wr => ∃ (k : Nat) (vs : List Value), RwV wr w.heap.size x k vs (pc l) ∧ Below w.heap.size w wr ∧ i = .int .i64 (120 * k : Nat) ∧ k ≤ np n) (fun _ i _ _ => 2 * n + 240 - (intOf i).toNat)
  case atStart => exact ⟨0, [], RwV.nil _ _ _, Below.refl _ _, rfl, Nat.zero_le _⟩
  case round =>
    obtain ⟨k, vs, hrow, hb, rfl, hk⟩ := hrel
    obtain ⟨q, hq⟩ : ∃ q, q = 120 * k := ⟨_, rfl⟩
    rw [← hq]
    by_cases hlt : q < n
    · obtain ⟨b, off, rfl, _⟩ := hr.2 (by omega)
      obtain ⟨m, hm⟩ : ∃ m, m = min (n - q) 120 := ⟨_, rfl⟩
      have hp : Rs2 wr B (some ⟨b, off + q * 2, none⟩) m (pc l k) := by
        have h1 := rs2_piece (hr.below (hb.mono hB)) k (by omega)
        rw [hm, hq, show 120 * k * 2 = 240 * k by omega]; exact h1
      have hpl : (pc l k).length = m := by rw [pc_len, hr.1, hm, hq]
      have hs := hb.size
      have HM := Lib.hid (And.intro hm hq)
      have HPL := Lib.hid hpl
      have hmp : 0 < m := by omega
      have hm120 : m ≤ 120 := by omega
      have hk6 : k ≤ 100000 := by omega
      clear hpl hq
      by_cases hc1 : n < q + 120
      · obtain rfl : m = n - q := by omega
        clear hm
        go_wp2_with (at_builtin; first
          | (refine wpList_copy2 rfl (.const (.slice none 0 0)) (.tmp 24) 38 rfl 43 i1 _ 16 Try.underlying38 hi1 hy0 hy1 hy2 rfl rfl (some ⟨b, off + q * 2, none⟩) (n - q) (c - q) B (pc l k) rfl hp (by omega) (by unfold maxLen; omega) ?_; intro u w1 hown1 hb1; obtain ⟨r, cap, cur, rfl, _⟩ := own_form hown1 hmp)
          | (refine wpList_append_own_at _ rfl (.tmp 20) (.tmp 26) 39 rfl w.heap.size 38 i0 (.slice none 0 0) 1 24 Try.underlying39 hi hz0 hz1 hz2 rfl (by decide) u3 k vs rfl ((hrow.below hb1).out.alloc _) ⟨w1.heap.size, 0, none⟩ 1 1 [.slice (some ⟨r, 0, none⟩) (n - q) cap] rfl rfl (cell_one_new _ _ _) (by simp [Value.oneCell']) (by unfold maxLen; omega) (by omega) (by have := hb1.size; simp; omega) ?_; intro v2 w2 hown2 hg2 _ _))
        obtain ⟨hr2, hb2⟩ := chunks_step hrow hs hb1 (by rw [HPL.out]; exact hown1) hown2 hg2
        go_roundw
        case rel => exact ⟨k + 1, _, hr2, hb.trans hb2, by have := HM.out; go_num, by have := HM.out; unfold np at hk ⊢; omega⟩
        case measure => simp [intOf]; omega
      · obtain rfl : m = q + 120 - q := by omega
        clear hm
        go_wp2_with (at_builtin; first
          | (refine wpList_copy2 rfl (.const (.slice none 0 0)) (.tmp 24) 38 rfl 43 i1 _ 16 Try.underlying38 hi1 hy0 hy1 hy2 rfl rfl (some ⟨b, off + q * 2, none⟩) (q + 120 - q) (c - q) B (pc l k) rfl hp (by omega) (by unfold maxLen; omega) ?_; intro u w1 hown1 hb1; rw [show q + 120 - q = 120 by omega] at hown1; obtain ⟨r, cap, cur, rfl, _⟩ := own_form hown1 (by omega))
          | (refine wpList_append_own_at _ rfl (.tmp 20) (.tmp 26) 39 rfl w.heap.size 38 i0 (.slice none 0 0) 1 24 Try.underlying39 hi hz0 hz1 hz2 rfl (by decide) u3 k vs rfl ((hrow.below hb1).out.alloc _) ⟨w1.heap.size, 0, none⟩ 1 1 [.slice (some ⟨r, 0, none⟩) 120 cap] rfl rfl (cell_one_new _ _ _) (by simp [Value.oneCell']) (by unfold maxLen; omega) (by omega) (by have := hb1.size; simp; omega) ?_; intro v2 w2 hown2 hg2 _ _))
        obtain ⟨hr2, hb2⟩ := chunks_step hrow hs hb1 (by rw [HPL.out, show q + 120 - q = 120 by omega]; exact hown1) hown2 hg2
        go_roundw
        case rel => exact ⟨k + 1, _, hr2, hb.trans hb2, by have := HM.out; go_num, by have := HM.out; unfold np at hk ⊢; omega⟩
        case measure => simp [intOf]; omega
    · have hkk : k = np n := by unfold np at hk ⊢; omega
      subst hkk
      go_wp2_with fail
      go_ret
      exact ⟨_, _, rfl, hrow, hb⟩
end Go.Proofs.Ytnbamngancchmaa
