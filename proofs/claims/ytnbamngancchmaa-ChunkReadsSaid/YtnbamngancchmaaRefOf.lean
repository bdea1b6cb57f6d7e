/- What lysimeterref4.Of and Reader.Get answer: the bits of bytes; a number from bits. Conditions: at most 10^5 bytes. -/
import Derived.Test.YtnbamngancchmaaRefBits
import Derived.Test.YtnbamngancchmaaReader
import Derived.Test.YtnbamngancchmaaEqual
import Derived.Test.YtnbamngancchmaaRefStamps
namespace Go.Proofs.Ytnbamngancchmaa
open Go.RowKit PB PS

theorem byte_bit' (x j : Nat) (hx : x < 256) (hj : j < 8) : bits .and .u8 ((x : Int) / 2 ^ j) 1 = ((x / 2 ^ j % 2 : Nat) : Int) := by
  have := byte_bit x (7 - j) hx (by omega)
  rwa [show 7 - (7 - j) = j by omega] at this
theorem take_bit {l : List Nat} {i j : Nat} (hi : i < l.length) (hj : j < 8) : (bitsOf l).take (8 * i + (8 - j)) = (bitsOf l).take (8 * i + (7 - j)) ++ [decide (l.getD i 0 / 2 ^ j % 2 = 1)] := by
  have hl : 8 * i + (7 - j) < (bitsOf l).length := by rw [bitsOf_length]; omega
  rw [show 8 * i + (8 - j) = 8 * i + (7 - j) + 1 by omega, List.take_succ_eq_append_getElem hl, bitsOf_get]
  unfold rbit
  rw [show (8 * i + (7 - j)) / 8 = i by omega, show 7 - (8 * i + (7 - j)) % 8 = j by omega]

set_option maxRecDepth 100000 in
set_option maxHeartbeats 1000000 in
theorem rof_any (A : Option Addr) (n c B : Nat) (l : List Nat) (w : World) (hr : Rd w B A n (l.map bv)) (hB : B ≤ w.heap.size) (hn : n ≤ 100000) (hb : ∀ x ∈ l, x < 256) :
    Calls Try.prog 49 #[.slice A n c] w fun e w' => ∃ v, e = .returned v ∧ w'.ownsRow w.heap.size 4 1 v (8 * n) ((bitsOf l).map Value.bool) ∧ Below w.heap.size w w' := by
  obtain ⟨i0, hi, hz0, hz1, hz2⟩ := info_parts Try.info4
  have hl := hr.blen
  have HL := Lib.hid hl
  have HBY : Hid (∀ x ∈ l, x < 256) := hb
  clear hl hb
  go_enter Try.func49, Try.ntmps49
  go_wp2_with fail
  go_loopw [3, 4] (fun v i wr => ∃ k : Nat, k ≤ n ∧ i = .int .i64 k ∧ wr.ownsRow w.heap.size 4 1 v (8 * k) (((bitsOf l).take (8 * k)).map Value.bool) ∧ Below w.heap.size w wr) (fun _ i _ => n - (intOf i).toNat)
  case atStart => exact ⟨0, Nat.zero_le _, rfl, World.ownsRow_nil _ _ _ _, Below.refl _ _⟩
  case round =>
    obtain ⟨k, hk, rfl, hown, hbl⟩ := hrel
    by_cases hlt : k < n
    · go_wp2_with fail
      go_loopw [3, 5] (fun v i wr => ∃ j : Nat, j ≤ 8 ∧ i = .int .i64 ((j : Int) - 1) ∧ wr.ownsRow w.heap.size 4 1 v (8 * k + (8 - j)) (((bitsOf l).take (8 * k + (8 - j))).map Value.bool) ∧ Below w.heap.size w wr) (fun _ i _ => (intOf i + 1).toNat)
      case atStart => exact ⟨8, by omega, rfl, hown, hbl⟩
      case round =>
        clear hown hbl
        obtain ⟨j, hj, rfl, hown, hbl⟩ := hrel
        rcases Nat.eq_zero_or_pos j with h0 | h0
        · subst h0
          go_wp2_with fail
          go_roundw
          case rel => exact ⟨k + 1, by omega, by go_num, hown, hbl⟩
          case measure => simp [intOf]; omega
        · obtain ⟨m, rfl⟩ : ∃ m, j = m + 1 := ⟨j - 1, by omega⟩
          rw [show ((m + 1 : Nat) : Int) - 1 = (m : Int) by omega]
          obtain ⟨b, off, rfl, hb1, hc⟩ := (hr.below (hbl.mono hB)).byte hlt
          have hck := hc k hlt
          have hx256 : l.getD k 0 < 256 := by
            have hkl : k < l.length := by rw [HL.out]; exact hlt
            have := HBY.out l[k] (List.getElem_mem hkl)
            simpa [List.getD, hkl] using this
          have HT := Lib.hid (take_bit (l := l) (i := k) (j := m) (by rw [HL.out]; exact hlt) (by omega))
          obtain ⟨x, hx⟩ : ∃ x, x = l.getD k 0 := ⟨_, rfl⟩
          rw [← hx] at hck hx256 HT
          have hbit := byte_bit' x m hx256 (by omega)
          obtain ⟨q, hq⟩ : ∃ q, q = x / 2 ^ m % 2 := ⟨_, rfl⟩
          rw [← hq] at hbit HT
          have hq2 : q < 2 := by rw [hq]; exact Nat.mod_lt _ (by omega)
          obtain ⟨bb, hbb⟩ : ∃ bb, bb = decide (q = 1) := ⟨_, rfl⟩
          rw [← hbb] at HT
          have hq1 : ((q : Int) == 1) = bb := by rw [hbb]; rcases bit_eq hq2 with h | h <;> subst h <;> rfl
          rw [show 7 - m = 8 - (m + 1) by omega] at HT
          have hlen : 8 * k + (8 - (m + 1)) ≤ 800000 := by omega
          have HX := Lib.hid hx
          obtain ⟨N, hN⟩ : ∃ N, N = 8 * k + (8 - (m + 1)) := ⟨_, rfl⟩
          rw [← hN] at hown hlen HT
          have HN := Lib.hid hN
          clear hx hq hc hbb hq2 hN
          have hlB := hbl.size
          go_wp2_with (at_builtin; refine wpList_append_lies _ rfl (.tmp 16) (.tmp 26) 70 rfl w.heap.size 4 i0 (.bool false) 1 1 Try.underlying70 hi hz0 hz1 hz2 rfl (by decide) u3 N _ rfl (hown.alloc _) ⟨wr.heap.size, 0, none⟩ 1 1 [.bool bb] rfl rfl (cell_one_new wr _ 4) (by simp [Value.oneCell']) (by omega) (by unfold maxLen; omega) (by omega) (by simp; omega) (wr.heap.size + 1) (by simp) ?_; intro r cap w1 hown1 hg1 hat1 hlt1)
          have HF : Hid (w1.ownsRow w.heap.size 4 1 (.slice (some ⟨r, 0, none⟩) (N + 1) cap) (8 * k + (8 - m)) (((bitsOf l).take (8 * k + (8 - m))).map Value.bool) ∧ Below w.heap.size w w1) := by
            refine ⟨?_, (hbl.alloc hlB _).grown hg1 (by simp; omega) (fun x hx => (hown.lt x hx).1)⟩
            have e : 8 * k + (8 - m) = N + 1 := by rw [HN.out]; omega
            rw [HT.out, List.map_append]
            rw [e]; exact hown1
          clear hown1 hg1 hat1 hlt1 hown hbl hbit hq1
          go_wp2_with fail
          go_roundw
          case rel => exact ⟨m, by omega, rfl, HF.out.1, HF.out.2⟩
          case measure => simp [intOf]
    · obtain rfl : k = n := by omega
      have HO : Hid (∀ v, wr.ownsRow w.heap.size 4 1 v (8 * k) (((bitsOf l).take (8 * k)).map Value.bool) → wr.ownsRow w.heap.size 4 1 v (8 * k) ((bitsOf l).map Value.bool)) := by
        intro v h
        rwa [List.take_of_length_le (by rw [bitsOf_length, HL.out]; exact Nat.le_refl _)] at h
      go_wp2_with fail
      go_ret
      exact ⟨_, rfl, HO.out _ hown, hbl⟩
end Go.Proofs.Ytnbamngancchmaa
