/- What lysimeterref4.Bits.Bytes answers. Condition: at most 10^6 bits. -/
import Derived.Test.YtnbamngancchmaaRefBits
import Derived.Deep.OwnRows
import Derived.BigQuiet
import Derived.Deep.QuietTactic
namespace Go.Proofs.Ytnbamngancchmaa
open Go.RowKit PB PS

theorem bytesN_take_true {C : List Bool} {k N : Nat} (hk : k < C.length) (h : C.getD k false = true) :
    ((bytesN (C.take k) N).set (k / 8) (byteAt (C.take k) (k / 8) ||| 1 * 2 ^ (7 - k % 8))) = bytesN (C.take (k + 1)) N := by
  have hl : (C.take k).length = k := by rw [List.length_take]; omega
  have e : C.take (k + 1) = C.take k ++ [true] := by
    rw [List.take_succ_eq_append_getElem hk]
    congr 2
    simpa [List.getD, hk] using h
  have := bytesN_set (C.take k) true N
  rw [hl] at this
  rw [e, ← this]; rfl
theorem bytesN_take_false {C : List Bool} {k N : Nat} (hk : k < C.length) (h : C.getD k false = false) : bytesN (C.take k) N = bytesN (C.take (k + 1)) N := by
  have hl : (C.take k).length = k := by rw [List.length_take]; omega
  have e : C.take (k + 1) = C.take k ++ [false] := by
    rw [List.take_succ_eq_append_getElem hk]
    congr 2
    simpa [List.getD, hk] using h
  have := bytesN_set (C.take k) false N
  rw [hl] at this
  rw [e, ← this]
  have h0 : byteAt (C.take k) (k / 8) ||| b2n false * 2 ^ (7 - k % 8) = byteAt (C.take k) (k / 8) := by simp [b2n]
  rw [h0]
  by_cases hh : k / 8 < N
  · symm
    apply List.ext_getElem?
    intro j
    rw [List.getElem?_set]
    split
    · rename_i e; subst e
      simp [bytesN, hh]
    · rfl
  · rw [List.set_eq_of_length_le (by rw [bytesN_length]; omega)]

set_option maxRecDepth 100000 in
set_option maxHeartbeats 1000000 in
theorem rbytes_any (base g : Nat) (sv : Value) (C : List Bool) (w : World) (hl : C.length ≤ 1000000) (hw : Wb w base g sv C) :
    Calls Try.prog 43 #[.pointer (some ⟨g, 0, none⟩)] w fun e w' => ∃ v, e = .returned v ∧ w'.ownsRow w.heap.size 5 1 v (bytesOf C).length ((bytesOf C).map bv) ∧ Below w.heap.size w w' := by
  obtain ⟨A, c, rfl, hrd, _, _⟩ := Rd.of_own hw.own
  have h0 : w.cell? ⟨g, 0, none⟩ = some (.slice A C.length c) := hw.arr.at_ (i := 0) rfl
  obtain ⟨M, hM⟩ : ∃ M, M = C.length := ⟨_, rfl⟩
  rw [← hM] at h0 hl hrd
  obtain ⟨N, hN⟩ : ∃ N, N = (M + 7) / 8 := ⟨_, rfl⟩
  have hlen : (bytesOf C).length = N := by rw [bytesOf_length, hN, hM]
  have hbN : bytesOf C = bytesN C N := by unfold bytesOf; rw [hN, hM]
  have hmk := fun w => run_make_row' (P := Try.prog) 24 5 (.int .u8 0) 1 Try.underlying24 Try.info5 rfl .i64 .i64 N (by omega) (by omega) w
  have hNe : ((M : Int) + 7) / 8 = (N : Int) := by omega
  have HM := Lib.hid hM
  have HN := Lib.hid hN
  have HL := Lib.hid (And.intro hlen hbN)
  have HA := Lib.hid hw.arr
  clear hlen hbN hM hw hN
  go_enter Try.func43, Try.ntmps43
  go_wp2_with fail
  go_loopw [4] (fun i wr => ∃ k : Nat, k ≤ M ∧ i = .int .i64 k ∧ wr.ownsRow w.heap.size 5 1 (.slice (some ⟨w.heap.size, 0, none⟩) N N) N ((bytesN (C.take k) N).map bv) ∧ Below w.heap.size w wr) (fun i _ => M - (intOf i).toNat)
  case atStart =>
    refine ⟨0, Nat.zero_le _, rfl, ?_, (Below.refl _ _).alloc (Nat.le_refl _) _⟩
    have e : (bytesN (C.take 0) N).map bv = List.replicate N (.int .u8 0) := by
      apply List.ext_getElem?
      intro j
      by_cases hj : j < N
      · simp [bytesN, hj, bv, byteAt_ge]
      · simp [bytesN, hj]
    have h := World.ownsRow_lit (base := w.heap.size) (e := 5) (size := 1) w (madeCells #[.int .u8 0] N) N (Nat.le_refl _) (by unfold maxLen; omega) (by rw [size_madeCells, Nat.mul_one])
    rw [toList_madeCells_one] at h
    rw [e]; exact h
  case round =>
    obtain ⟨k, hk, rfl, hown, hbl⟩ := hrel
    have h1 := (hbl.cell (p := ⟨g, 0, none⟩) HA.out.lt).trans h0
    by_cases hlt : k < M
    · obtain ⟨b, off, rfl, hb, hc⟩ := (hrd.below hbl).2 (by omega)
      have hck := hc k (.bool (C.getD k false)) (by have := HM.out; simp [List.getD, show k < C.length by omega])
      have h8 : k / 8 < N := by have := HN.out; omega
      have hx := own_cell hown (i := k / 8) (u := bv (byteAt (C.take k) (k / 8))) (by simp [bytesN, h8])
      have hf := own_frozen hown (k / 8)
      have hb8 := byteAt_lt (C.take k) (k / 8)
      have hor := shl_or (byteAt (C.take k) (k / 8)) 1 (k % 8) hb8 (by omega) (Nat.mod_lt _ (by omega))
      obtain ⟨y, hy⟩ : ∃ y, y = byteAt (C.take k) (k / 8) ||| 1 * 2 ^ (7 - k % 8) := ⟨_, rfl⟩
      rw [← hy] at hor
      replace hor : bits .or .u8 ((byteAt (C.take k) (k / 8) : Nat) : Int) ((2 : Int) ^ (7 - k % 8) % 256) = (y : Int) := by
        rw [← hor]; congr 2; simp
      cases hbit : C.getD k false with
      | false =>
        rw [hbit] at hck
        have HF := Lib.hid (bytesN_take_false (N := N) (by have := HM.out; omega) hbit)
        clear hbit hc hrd hor hx hf
        go_wp2_with fail
        go_roundw
        case rel => exact ⟨k + 1, by omega, by go_num, by rw [← HF.out]; exact hown, hbl⟩
        case measure => simp [intOf]; omega
      | true =>
        rw [hbit] at hck
        have HF := Lib.hid (bytesN_take_true (N := N) (by have := HM.out; omega) hbit)
        rw [← hy] at HF
        have HY := Lib.hid hy
        have HS := Lib.hid (own_set hown (k / 8) (bv y))
        clear hbit hc hrd hy
        unfold bv at hx
        have HB : Hid (Below w.heap.size w (wr.setCell ⟨w.heap.size, k / 8, none⟩ (bv y))) := hbl.setCell (Nat.le_refl _) _
        go_wp2_with fail
        go_roundw
        case rel => exact ⟨k + 1, by omega, by go_num, by rw [← HF.out, List.map_set]; exact HS.out, HB.out⟩
        case measure => simp [intOf]; omega
    · obtain rfl : k = M := by omega
      have HO : Hid (wr.ownsRow w.heap.size 5 1 (.slice (some ⟨w.heap.size, 0, none⟩) N N) (bytesOf C).length ((bytesOf C).map bv)) := by
        show wr.ownsRow _ _ _ _ _ _
        rw [HL.out.1, HL.out.2]
        rw [show C.take k = C by rw [HM.out, List.take_length]] at hown
        exact hown
      clear hown
      go_wp2_with fail
      go_ret
      exact ⟨_, rfl, HO.out, hbl⟩
end Go.Proofs.Ytnbamngancchmaa
