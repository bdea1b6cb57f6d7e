/- What values.zeros, window.has and window.size answer. Condition: zeros' number is not 0 and has 64 bits. -/
import Derived.Test.YtnbamngancchmaaValues
import Derived.Test.YtnbamngancchmaaSput
import Derived.WalkMore
import Derived.Deep.LoopGhost
namespace Go.Proofs.Ytnbamngancchmaa
open Go.RowKit PB PV

theorem Try.info63 : (Try.prog.info? 63).map (·.size) = some 2 := by kernel_rfl
theorem u64_and1 (x m : Nat) (hx : x < 18446744073709551616) : bits .and .u64 ((x : Int) / 2 ^ m) 1 = ((x / 2 ^ m % 2 : Nat) : Int) := by
  have hlt : x / 2 ^ m < 18446744073709551616 := Nat.lt_of_le_of_lt (Nat.div_le_self _ _) hx
  have e : (x : Int) / 2 ^ m = ((x / 2 ^ m : Nat) : Int) := by rw [Int.natCast_ediv, Int.natCast_pow]; rfl
  rw [e]
  have := u64_and_nat (x / 2 ^ m) 1 hlt (by omega)
  rw [nat_mask1] at this
  exact this
theorem lz_break {x t : Nat} (h0 : x ≠ 0) (hx : x < 18446744073709551616) (hi : lz x = lzF x (64 - t) t) (ht : t ≤ 64) : t < 64 := by
  rcases Nat.lt_or_ge t 64 with h | h
  · exact h
  · obtain rfl : t = 64 := by omega
    have h1 := hz_lz h0 hx
    rw [hi] at h1
    simp [lzF] at h1


theorem hzF_hit {x f h : Nat} (hf : 0 < f) (hb : ¬ x / 2 ^ (63 - h) % 2 = 0) : hzF x f h = h := by
  obtain ⟨g, rfl⟩ : ∃ g, f = g + 1 := ⟨f - 1, by omega⟩
  rw [hzF, if_neg hb]
theorem hzF_miss {x f h : Nat} (hf : 0 < f) (hb : x / 2 ^ (63 - h) % 2 = 0) : hzF x f h = hzF x (f - 1) (h + 1) := by
  obtain ⟨g, rfl⟩ : ∃ g, f = g + 1 := ⟨f - 1, by omega⟩
  rw [hzF, if_pos hb]; rfl
theorem lzF_hit {x f h : Nat} (hf : 0 < f) (hb : ¬ x / 2 ^ h % 2 = 0) : lzF x f h = h := by
  obtain ⟨g, rfl⟩ : ∃ g, f = g + 1 := ⟨f - 1, by omega⟩
  rw [lzF, if_neg hb]
theorem lzF_miss {x f h : Nat} (hf : 0 < f) (hb : x / 2 ^ h % 2 = 0) : lzF x f h = lzF x (f - 1) (h + 1) := by
  obtain ⟨g, rfl⟩ : ∃ g, f = g + 1 := ⟨f - 1, by omega⟩
  rw [lzF, if_pos hb]; rfl

set_option maxRecDepth 100000 in
set_option maxHeartbeats 1000000 in
theorem vzeros_any (x : Nat) (w : World) (h0 : x ≠ 0) (hx : x < 18446744073709551616) :
    Calls Try.prog 68 #[.int .u64 (x : Int)] w fun e w' => e = .returned (.agg #[.int .i64 (hz x : Int), .int .i64 (lz x : Int)]) ∧ Below w.heap.size w w' := by
  have H0 := Lib.hid h0
  clear h0
  go_enter Try.func68, Try.ntmps68
  go_wp2_with fail
  go_step3
  go_wp2_with fail
  go_step3
  go_wp2_with fail
  obtain ⟨H, hH⟩ : ∃ H, H = w.heap.size := ⟨_, rfl⟩
  have hb0 : Below H w ((w.alloc (.cells #[.int .i64 0, .int .i64 0] 63)).alloc (.cells #[.int .i64 0, .int .i64 0] 63)) := by
    rw [hH]; exact ((Below.refl _ w).alloc (Nat.le_refl _) _).alloc (by simp) _
  have r0 : Arr ((w.alloc (.cells #[.int .i64 0, .int .i64 0] 63)).alloc (.cells #[.int .i64 0, .int .i64 0] 63)) H 63 #[.int .i64 0, .int .i64 0] := by
    rw [hH]; exact (Arr.new w 63 _).alloc _
  have r1 : Arr ((w.alloc (.cells #[.int .i64 0, .int .i64 0] 63)).alloc (.cells #[.int .i64 0, .int .i64 0] 63)) (H + 1) 63 #[.int .i64 0, .int .i64 0] := by
    have := Arr.new (w.alloc (.cells #[.int .i64 0, .int .i64 0] 63)) 63 #[.int .i64 0, .int .i64 0]
    rw [hH]; simpa using this
  rw [← hH]
  have HH := Lib.hid hH
  clear hH
  go_loopg [] 31 (fun g wr => ∃ h : Nat, h + g = 31 ∧ Hid (hz x = hzF x (31 - h) h) ∧ Arr wr (H + 1) 63 #[.int .i64 (h : Int), .int .i64 0] ∧ Arr wr H 63 #[.int .i64 0, .int .i64 0] ∧ Below H w wr)
  case atStart => exact ⟨0, rfl, rfl, r1, r0, hb0⟩
  case round =>
    obtain ⟨h, hg, HZ, a1, a0, hbl⟩ := hrel
    clear r0 r1 hb0
    have c0 := a1.at_ (i := 0) (v := .int .i64 (h : Int)) rfl
    have f0 := a1.frozen 0
    have hbit := u64_and1 x (63 - h) hx
    have HA := Lib.hid (And.intro a1 a0)
    have H3 : (h < 31 ∧ x / 2 ^ (63 - h) % 2 = 0) ∨ (h < 31 ∧ ¬ x / 2 ^ (63 - h) % 2 = 0) ∨ ¬ h < 31 := by omega
    rcases H3 with ⟨hlt, hb⟩ | ⟨hlt, hb⟩ | hlt
    case inl =>
      have HN : Hid (hz x = hzF x (31 - (h + 1)) (h + 1)) := by
        have h1 := HZ.out
        rw [hzF_miss (by omega) hb] at h1
        rw [show 31 - (h + 1) = 31 - h - 1 by omega]
        exact h1
      rw [hb] at hbit
      clear hb HZ
      go_wp2_with fail
      go_roundg (31 - (h + 1))
      case measure => omega
      case rel => exact ⟨h + 1, by omega, HN, by have := HA.out.1.set 0 (.int .i64 (h + 1 : Int)); simpa using this, HA.out.2.far (by simp) _, hbl.setCell (by rw [HH.out]; simp) _⟩
    case' inr.inl =>
      have HF : Hid (h = hz x) := by
        have h1 := HZ.out
        rw [hzF_hit (by omega) hb] at h1
        exact h1.symm
      have hbit1 : ((x / 2 ^ (63 - h) % 2 : Nat) : Int) = 1 := by omega
      rw [hbit1] at hbit
      clear hb HZ hbit1
      go_wp2_with fail
      go_step3
      go_wp2_with fail
    case' inr.inr =>
      have HF : Hid (h = hz x) := by
        have h1 := HZ.out
        obtain rfl : h = 31 := by omega
        exact h1.symm
      clear HZ hbit
      go_wp2_with fail
      go_step3
      go_wp2_with fail
    all_goals
      clear c0 f0 hg hlt a1 a0
      have a1 := HA.out.1
      have a0 := HA.out.2
      clear HA
      rw [HF.out] at a1
      go_loopg [] 64 (fun g wr => ∃ t : Nat, t + g = 64 ∧ Hid (lz x = lzF x (64 - t) t) ∧ Arr wr (H + 1) 63 #[.int .i64 (hz x : Int), .int .i64 (t : Int)] ∧ Arr wr H 63 #[.int .i64 0, .int .i64 0] ∧ Below H w wr)
      case atStart => exact ⟨0, rfl, rfl, a1, a0, hbl⟩
      case round =>
        clear a1 a0 hbl HF
        obtain ⟨t, hg, HZ, a1, a0, hbl⟩ := hrel
        have ht := lz_break H0.out hx HZ.out (by omega)
        have c1 := a1.at_ (i := 1) (v := .int .i64 (t : Int)) rfl
        have f1 := a1.frozen 1
        have hbit := u64_and1 x t hx
        have HA := Lib.hid (And.intro a1 a0)
        by_cases hb : x / 2 ^ t % 2 = 0
        · have HN : Hid (lz x = lzF x (64 - (t + 1)) (t + 1)) := by
            have h1 := HZ.out
            rw [lzF_miss (by omega) hb] at h1
            rw [show 64 - (t + 1) = 64 - t - 1 by omega]
            exact h1
          rw [hb] at hbit
          clear hb HZ a1 a0
          go_wp2_with fail
          go_roundg (64 - (t + 1))
          case measure => omega
          case rel => exact ⟨t + 1, by omega, HN, by have := HA.out.1.set 1 (.int .i64 (t + 1 : Int)); simpa using this, HA.out.2.far (by simp) _, hbl.setCell (by rw [HH.out]; simp) _⟩
        · have HL : Hid (t = lz x) := by
            have h1 := HZ.out
            rw [lzF_hit (by omega) hb] at h1
            exact h1.symm
          have hbit1 : ((x / 2 ^ t % 2 : Nat) : Int) = 1 := by omega
          rw [hbit1] at hbit
          have c0 := a1.at_ (i := 0) (v := .int .i64 (hz x : Int)) rfl
          have d0 := a0.at_ (i := 0) (v := .int .i64 0) rfl
          have d1 := a0.at_ (i := 1) (v := .int .i64 0) rfl
          have e0 := a0.frozen 0
          have e1 := a0.frozen 1
          clear hb HZ hbit1 a1 a0
          go_wp2_with fail
          rw [Exit.noGoto_ret]
          have hfin : Arr ((wr.setCell { block := H, off := 0 } (Value.int IntKind.i64 ↑(hz x))).setCell { block := H, off := 1 } (Value.int IntKind.i64 ↑t)) H 63 #[.int .i64 (hz x : Int), .int .i64 (t : Int)] := by
            have := (HA.out.2.set 0 (.int .i64 (hz x : Int))).set 1 (.int .i64 (t : Int)); simpa using this
          refine bodyPost_ret (results_cell_row (P := Try.prog) rfl _ _ H 63 #[.int .i64 (hz x : Int), .int .i64 (t : Int)] (0, 0) _ rfl hfin Try.underlying63 rfl Try.info63) rfl ?_
          rw [← HL.out]
          exact ⟨rfl, by rw [← HH.out]; exact (hbl.setCell (Nat.le_refl _) _).setCell (Nat.le_refl _) _⟩
theorem vhas_any (a b c d : Nat) (w : World) (ha : a ≤ 64) (hb : b ≤ 64) (hc : c ≤ 64) (hd : d ≤ 64) :
    Calls Try.prog 69 #[.agg #[.int .i64 (a : Int), .int .i64 (b : Int)], .agg #[.int .i64 (c : Int), .int .i64 (d : Int)]] w fun e w' => e = .returned (.bool (decide (a ≤ c ∧ b ≤ d))) ∧ Below w.heap.size w w' := by
  by_cases h1 : a ≤ c
  · by_cases h2 : b ≤ d
    · go_enter Try.func69, Try.ntmps69
      go_wp2_with fail
      go_ret
      exact ⟨by simp [h1, h2], ((Below.refl _ w).alloc (Nat.le_refl _) _).alloc (by simp) _⟩
    · go_enter Try.func69, Try.ntmps69
      go_wp2_with fail
      go_ret
      exact ⟨by simp [h1, h2], ((Below.refl _ w).alloc (Nat.le_refl _) _).alloc (by simp) _⟩
  · go_enter Try.func69, Try.ntmps69
    go_wp2_with fail
    go_ret
    exact ⟨by simp [h1], ((Below.refl _ w).alloc (Nat.le_refl _) _).alloc (by simp) _⟩
theorem vsize_any (a b : Int) (w : World) (ha : 0 ≤ a ∧ a ≤ 64) (hb : -64 ≤ b ∧ b ≤ 64) :
    Calls Try.prog 70 #[.agg #[.int .i64 a, .int .i64 b]] w fun e w' => e = .returned (.int .i64 (64 - a - b)) ∧ Below w.heap.size w w' := by
  obtain ⟨h1, h2⟩ := ha
  obtain ⟨h3, h4⟩ := hb
  go_enter Try.func70, Try.ntmps70
  go_wp2_with fail
  go_ret
  exact ⟨rfl, (Below.refl _ w).alloc (Nat.le_refl _) _⟩
end Go.Proofs.Ytnbamngancchmaa
