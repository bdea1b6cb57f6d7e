/- Slices of bytes cut at a place, as run equations: the slice's own form stays behind a letter. Conditions: the place lies within. -/
import Derived.Test.YtghklmhmhekjgaaUpk
import Derived.Test.YtghklmhmhekjgaaOpenP
namespace Go.Proofs.Ytghklmhmhekjgaa
open Go.RowKit PC

theorem Try.elem36 : Try.prog.underlying 36 = some (.slice (Try.prog.elem 36)) := by kernel_rfl
theorem Try.elem5 : Try.prog.elem 36 = 5 := by kernel_rfl
theorem size5 (w : World) : (sizeOf 5).run Try.prog w = .ok 1 w := by
  obtain ⟨i0, hi, hz0, hz1, hz2⟩ := info_parts Try.info5
  simp [sizeOf, typeInfo, hi, hz1]
theorem sliced_rd {w : World} {B n c k : Nat} {A : Option Addr} {l : List Nat} (h : Rd w B A n (l.map bv)) (hk : k ≤ n) (hnc : n ≤ c) :
    ∃ A1, (if c = k then A else A.map (·.add (k * 1))) = A1 ∧ Rd w B A1 (n - k) ((l.drop k).map bv) := by
  refine ⟨_, rfl, ?_⟩
  have hl := h.blen
  rcases Nat.eq_zero_or_pos (n - k) with h0 | h0
  · exact Rd.any0 _ h0 (by rw [List.length_map, List.length_drop, hl])
  · rw [if_neg (by omega)]
    obtain ⟨b, off, rfl, _⟩ := h.2 (by omega)
    have := h.dropB hk
    rw [Option.map_some, Nat.mul_one]
    have e : (⟨b, off, none⟩ : Addr).add k = ⟨b, off + k, none⟩ := by unfold Addr.add; split <;> simp_all
    rw [e]; exact this
/-- 'b[k:]'. -/
theorem cut_from {w : World} {B n c k : Nat} {A : Option Addr} {l : List Nat} (h : Rd w B A n (l.map bv)) (hk : k ≤ n) (hnc : n ≤ c) :
    ∃ A1 c1, (∀ W, (Instr.sliceAt 36 (.slice A n c) (some (.int .i64 (k : Int))) none none).run Try.prog W = .ok (.slice A1 (n - k) c1) W) ∧ Rd w B A1 (n - k) ((l.drop k).map bv) ∧ n - k ≤ c1 := by
  obtain ⟨A1, e, hr⟩ := sliced_rd (c := c) h hk hnc
  refine ⟨A1, c - k, fun W => ?_, hr, by omega⟩
  rw [run_sliceAt_slice (h := Try.elem36), run_slice_l (ht := Try.elem36) (h0 := by omega) (h1 := by omega), Try.elem5, size5]
  unfold sliced
  simp only [Result.andThen, Int.toNat_natCast]
  rw [e]
/-- 'string(b[k:m])'. -/
theorem cut_str {w : World} {B n c k m : Nat} {A : Option Addr} {l : List Nat} (h : Rd w B A n (l.map bv)) (hk : k ≤ m) (hm : m ≤ n) (hnc : n ≤ c) :
    ∃ A1 c1, (∀ W, (Instr.sliceAt 36 (.slice A n c) (some (.int .i64 (k : Int))) (some (.int .i64 (m : Int))) none).run Try.prog W = .ok (.slice A1 (m - k) c1) W) ∧ (convert 36 9 (.slice A1 (m - k) c1)).run Try.prog w = .ok (.string (strN ((l.drop k).take (m - k)))) w := by
  obtain ⟨A1, e, hr⟩ := sliced_rd (c := c) h (Nat.le_trans hk hm) hnc
  refine ⟨A1, c - k, fun W => ?_, conv_rd (hr.takeB (by omega))⟩
  rw [run_sliceAt_slice (h := Try.elem36), run_slice_lh (ht := Try.elem36) (h0 := by omega) (h1 := by omega) (h2 := by omega), Try.elem5, size5]
  unfold sliced
  simp only [Result.andThen, Int.toNat_natCast]
  rw [e]
end Go.Proofs.Ytghklmhmhekjgaa
