/- What lysimeterref4.zeros and Values answer. Conditions: zeros' number is not 0 and has 64 bits; Values: at most 10^9 numbers. -/
import Derived.Test.YtnbamngancchmaaVunpack
import Derived.Test.YtnbamngancchmaaRefStamps
namespace Go.Proofs.Ytnbamngancchmaa
open Go.RowKit PB PV

def hzI (x i : Nat) : Nat := if i ≤ 31 then hzF x (31 - i) i else 31
theorem hzI_step {x i : Nat} (hb : x / 2 ^ (63 - i) % 2 = 0) : hzI x i = hzI x (i + 1) := by
  unfold hzI
  rcases Nat.lt_or_ge i 31 with h | h
  · rw [if_pos (by omega), if_pos (by omega), hzF_miss (by omega) hb, show 31 - (i + 1) = 31 - i - 1 by omega]
  · rw [if_neg (show ¬ i + 1 ≤ 31 by omega)]
    split
    · obtain rfl : i = 31 := by omega
      rfl
    · rfl
theorem hzI_end {x i : Nat} (hb : i = 64 ∨ ¬ x / 2 ^ (63 - i) % 2 = 0) : hzI x i = if i ≤ 31 then i else 31 := by
  unfold hzI
  rcases Nat.lt_or_ge i 31 with h | h
  · rw [if_pos (by omega), if_pos (by omega), hzF_hit (by omega) (by rcases hb with hb | hb; omega; exact hb)]
  · split
    · obtain rfl : i = 31 := by omega
      rfl
    · rfl

set_option maxRecDepth 100000 in
set_option maxHeartbeats 1000000 in
theorem rzeros_any (x : Nat) (w : World) (h0 : x ≠ 0) (hx : x < 18446744073709551616) :
    Calls Try.prog 51 #[.int .u64 (x : Int)] w fun e w' => e = .returned (.tuple #[.int .i64 (hz x : Int), .int .i64 (lz x : Int)]) ∧ w' = w := by
  have H0 := Lib.hid h0
  clear h0
  go_enter Try.func51, Try.ntmps51
  go_wp2_with fail
  go_loopw [4] (fun v wr => ∃ i : Nat, i ≤ 64 ∧ v = .int .i64 i ∧ Hid (hz x = hzI x i) ∧ wr = w) (fun v _ => 64 - (intOf v).toNat)
  case atStart => exact ⟨0, by omega, rfl, rfl, rfl⟩
  case round =>
    obtain ⟨i, hi, rfl, HZ, rfl⟩ := hrel
    have hbit := u64_and1 x (63 - i) hx
    have H3 : (i < 64 ∧ x / 2 ^ (63 - i) % 2 = 0) ∨ (i < 64 ∧ ¬ x / 2 ^ (63 - i) % 2 = 0) ∨ 64 ≤ i := by omega
    rcases H3 with ⟨hlt, hb⟩ | ⟨hlt, hb⟩ | hlt
    case inl =>
      have HN : Hid (hz x = hzI x (i + 1)) := by
        show _ = _
        rw [HZ.out]; exact hzI_step hb
      rw [hb] at hbit
      clear hb HZ
      go_wp2_with fail
      go_roundw
      case rel => exact ⟨i + 1, by omega, by go_num, HN, trivial⟩
      case measure => simp [intOf]; omega
    case' inr.inl =>
      have HE : Hid (hz x = if i ≤ 31 then i else 31) := by
        show _ = _
        rw [HZ.out]; exact hzI_end (Or.inr hb)
      have hbit1 : ((x / 2 ^ (63 - i) % 2 : Nat) : Int) = 1 := by omega
      rw [hbit1] at hbit
      clear hb HZ hbit1
      go_wp2_with fail
    case' inr.inr =>
      have HE : Hid (hz x = if i ≤ 31 then i else 31) := by
        show _ = _
        rw [HZ.out]; exact hzI_end (Or.inl (by omega))
      clear HZ hbit
      go_wp2_with fail
    all_goals
      go_loopw [5] (fun v w2 => ∃ t : Nat, t ≤ 64 ∧ v = .int .i64 t ∧ Hid (lz x = lzF x (64 - t) t) ∧ w2 = wr) (fun v _ => 64 - (intOf v).toNat)
      case atStart => exact ⟨0, by omega, rfl, rfl, rfl⟩
      case round =>
        clear hlt
        obtain ⟨t, ht, rfl, HT, rfl⟩ := hrel
        have htl := lz_break H0.out hx HT.out ht
        have hbit := u64_and1 x t hx
        by_cases hb : x / 2 ^ t % 2 = 0
        · have HN : Hid (lz x = lzF x (64 - (t + 1)) (t + 1)) := by
            have h1 := HT.out
            rw [lzF_miss (by omega) hb] at h1
            rw [show 64 - (t + 1) = 64 - t - 1 by omega]
            exact h1
          rw [hb] at hbit
          clear hb HT
          go_wp2_with fail
          go_roundw
          case rel => exact ⟨t + 1, by omega, by go_num, HN, trivial⟩
          case measure => simp [intOf]; omega
        · have HL : Hid (lz x = t) := by
            have h1 := HT.out
            rw [lzF_hit (by omega) hb] at h1
            exact h1
          have hbit1 : ((x / 2 ^ t % 2 : Nat) : Int) = 1 := by omega
          rw [hbit1] at hbit
          clear hb HT hbit1
          by_cases hgt : i ≤ 31
          · have HZ2 : Hid (hz x = i) := by show _ = _; rw [HE.out, if_pos hgt]
            go_wp2_with fail
            all_goals go_ret2
            all_goals rw [HZ2.out, HL.out]
            all_goals (first | exact ⟨rfl, rfl⟩ | rfl)
          · have HZ2 : Hid (hz x = 31) := by show _ = _; rw [HE.out, if_neg hgt]
            go_wp2_with fail
            all_goals go_ret2
            all_goals rw [HZ2.out, HL.out]
            all_goals (first | exact ⟨rfl, rfl⟩ | rfl)

theorem wdiv (x b : Nat) : wrap64 ((x : Int) / 2 ^ b) = wrap64 ((x / 2 ^ b : Nat) : Int) := by
  have e : (x : Int) / 2 ^ b = ((x / 2 ^ b : Nat) : Int) := by rw [Int.natCast_ediv, Int.natCast_pow]; rfl
  rw [e]

/-- The reference's window: -1: there is none. -/
def WinR (win : Option (Nat × Nat)) (z t : Value) : Prop := (win = none ∧ z = .int .i64 (-1) ∧ t = .int .i64 0) ∨ ∃ a b : Nat, win = some (a, b) ∧ z = .int .i64 a ∧ t = .int .i64 b

set_option maxRecDepth 100000 in
set_option maxHeartbeats 2000000 in
theorem rvalues_any (A : Option Addr) (n c B : Nat) (l : List Int) (w : World) (hr : Rd w B A n (ints l)) (hB : B ≤ w.heap.size) (hn : n ≤ 1000000000) :
    Calls Try.prog 22 #[.slice A n c] w (VPost w l) := by
  have hl := hr.len
  by_cases h120 : n ≤ 120
  · have HL := Lib.hid hl
    have HE : Hid (packEV l = 0) := by show _ = _; unfold packEV; rw [if_neg (by omega)]
    clear hl
    go_enter Try.func22, Try.ntmps22
    go_wp2_with fail
    go_loopw [5, 6, 7] (fun z t i wr => ∃ (k : Nat) (sv : Value), k ≤ n ∧ i = .int .i64 k ∧ Hid (WinR (encV l k).2 z t) ∧ Hid (Wb wr w.heap.size w.heap.size sv (encV l k).1) ∧ Below w.heap.size w wr) (fun _ _ i _ => n - (intOf i).toNat)
    case atStart => exact ⟨0, _, Nat.zero_le _, rfl, Or.inl ⟨rfl, rfl, rfl⟩, Wb.made w _ _ rfl (Nat.le_refl _), (Below.refl _ w).alloc (Nat.le_refl w.heap.size) _⟩
    case round =>
      obtain ⟨k, sv, hk, rfl, HWIN, HWR, hbl⟩ := hrel
      have henc := encV_le l k
      by_cases hlt : k < n
      · obtain ⟨b, off, rfl, hb, hc⟩ := (hr.below (hbl.mono hB)).int hlt
        have hck := hc k hlt
        have hcp := hc (k - 1) (by omega)
        have hxor := xor_xat l k
        have HOK := Lib.hid (encV_ok l k)
        have hxl := xat_lt l k
        obtain ⟨X, hX⟩ : ∃ X, X = xat l k := ⟨_, rfl⟩
        rw [← hX] at hxor hxl
        have HXX := Lib.hid hX
        obtain ⟨x, hx⟩ : ∃ x, x = l.getD k 0 := ⟨_, rfl⟩
        obtain ⟨y, hy⟩ : ∃ y, y = l.getD (k - 1) 0 := ⟨_, rfl⟩
        rw [← hx] at hck hxor
        rw [← hy] at hcp hxor
        have HX := Lib.hid hx
        have HY := Lib.hid hy
        clear hx hy hc hX
        rcases Nat.eq_zero_or_pos k with h0 | h0
        · subst h0
          clear hxor hcp
          rw [Nat.add_zero] at hck
          have hq := rput_any w.heap.size w.heap.size 64 x sv (encV l 0).1 wr (by omega) (by omega) HWR.out
          go_wp2_with fail
          refine hq.mono ?_
          rintro r w2 ⟨rfl, ⟨sv2, hwr2⟩, hb2⟩
          have HW : Hid (Wb w2 w.heap.size w.heap.size sv2 (encV l (0 + 1)).1 ∧ Below w.heap.size w w2) := by
            refine ⟨?_, hbl.trans hb2⟩
            rw [encV_one, ← HX.out]
            exact hwr2
          have HWIN2 : Hid (WinR (encV l (0 + 1)).2 u5 u6) := HWIN.out
          clear hq hwr2 HWR hbl hck hb2
          go_wp2_with fail
          go_roundw
          case rel => exact ⟨1, sv2, by omega, by go_num, HWIN2, HW.out.1, HW.out.2⟩
          case measure => simp [intOf]; omega
        · have hk1 : 0 ≤ (k : Int) - 1 := by omega
          have hk2 : 1 ≤ (k : Int) := by omega
          by_cases hX0 : X = 0
          · subst hX0
            have HN : Hid (encV l (k + 1) = ((encV l k).1 ++ [false], (encV l k).2)) := by
              show _ = _
              rw [encV_succ l h0, ← HXX.out]; unfold encX; rw [if_pos rfl]
            go_wp2_with fail
            go_quiet (fail)
            go_wp2_with fail
            have hq := rput_any w.heap.size w.heap.size 1 0 sv (encV l k).1 (wr.drewN nq) (by omega) (by omega) (HWR.out.drewN nq)
            refine hq.mono ?_
            rintro r w2 ⟨rfl, ⟨sv2, hwr2⟩, hb2⟩
            have HW : Hid (WinR (encV l (k + 1)).2 u5 u6 ∧ Wb w2 w.heap.size w.heap.size sv2 (encV l (k + 1)).1 ∧ Below w.heap.size w w2) := by
              rw [HN.out]
              exact ⟨HWIN.out, hwr2, (below_drewN hbl nq).trans hb2⟩
            clear hq hwr2 HWR hbl hck hcp hb2 hxor
            go_wp2_with fail
            go_roundw
            case rel => exact ⟨k + 1, sv2, by omega, by go_num, HW.out.1, HW.out.2.1, HW.out.2.2⟩
            case measure => simp [intOf]; omega
          · have hzr := fun w => rzeros_any X w hX0 hxl
            have hfit := hz_lz hX0 hxl
            have hfz := hz_le X
            obtain ⟨n', hn'⟩ : ∃ n', hz X + lz X + n' = 64 := ⟨64 - hz X - lz X, by omega⟩
            obtain ⟨HZ, hHZ⟩ : ∃ HZ, HZ = hz X := ⟨_, rfl⟩
            obtain ⟨LZ, hLZ⟩ : ∃ LZ, LZ = lz X := ⟨_, rfl⟩
            rw [← hHZ, ← hLZ] at hzr hfit hn'
            rw [← hHZ] at hfz
            have HHZ := Lib.hid (And.intro hHZ hLZ)
            clear hHZ hLZ
            have hxb : ((X : Int) == 0) = false := by simpa using hX0
            rcases HWIN.out with ⟨hwin, rfl, rfl⟩ | ⟨a, b', hwin, rfl, rfl⟩
            · have hre : reuse none X = none := rfl
              have HN : Hid (encV l (k + 1) = ((encV l k).1 ++ (putBits 3 2 ++ putBits (HZ : Int) 5 ++ putBits ((n' : Int) - 1) 6 ++ putBits (wrap64 ((X / 2 ^ LZ : Nat) : Int)) n'), some (HZ, LZ))) := by
                show _ = _
                rw [encV_succ l h0, ← HXX.out, hwin, encX_new hX0 hre, ← HHZ.out.1, ← HHZ.out.2, show ((64 - HZ - LZ - 1 : Nat) : Int) = (n' : Int) - 1 by omega, show 64 - HZ - LZ = n' by omega]; rfl
              have hm1 : (64 : Int) - HZ - LZ = (n' : Int) := by omega
              clear hwin hX0 hre
              go_wp2_with fail
              go_quiet (fail)
              go_wp2_with fail
              refine (hzr _).mono ?_
              rintro r w1 ⟨rfl, rfl⟩
              go_wp2_with fail
              have hq2 := rput_any w.heap.size w.heap.size 2 3 sv (encV l k).1 (wr.drewN nq) (by omega) (by omega) (HWR.out.drewN nq)
              refine hq2.mono ?_
              rintro r w2 ⟨rfl, ⟨sv2, hwr2⟩, hb2⟩
              clear hq2
              go_wp2_with fail
              have hq3 := rput_any w.heap.size w.heap.size 5 (HZ : Int) sv2 ((encV l k).1 ++ putBits 3 2) w2 (by omega) (by rw [List.length_append, putBits_length]; omega) hwr2
              refine hq3.mono ?_
              rintro r w3 ⟨rfl, ⟨sv3, hwr3⟩, hb3⟩
              clear hq3
              go_wp2_with fail
              have hq4 := rput_any w.heap.size w.heap.size 6 ((n' : Int) - 1) sv3 ((encV l k).1 ++ putBits 3 2 ++ putBits (HZ : Int) 5) w3 (by omega) (by simp only [List.length_append, putBits_length]; omega) hwr3
              refine hq4.mono ?_
              rintro r w4 ⟨rfl, ⟨sv4, hwr4⟩, hb4⟩
              clear hq4
              go_wp2_with fail
              have hq5 := rput_any w.heap.size w.heap.size n' (wrap64 ((X : Int) / 2 ^ LZ)) sv4 ((encV l k).1 ++ putBits 3 2 ++ putBits (HZ : Int) 5 ++ putBits ((n' : Int) - 1) 6) w4 (by omega) (by simp only [List.length_append, putBits_length]; omega) hwr4
              refine hq5.mono ?_
              rintro r w5 ⟨rfl, ⟨sv5, hwr5⟩, hb5⟩
              have HW : Hid (WinR (encV l (k + 1)).2 (.int .i64 HZ) (.int .i64 LZ) ∧ Wb w5 w.heap.size w.heap.size sv5 (encV l (k + 1)).1 ∧ Below w.heap.size w w5) := by
                rw [HN.out]
                refine ⟨Or.inr ⟨HZ, LZ, rfl, rfl, rfl⟩, ?_, (below_drewN hbl nq).trans (hb2.trans (hb3.trans (hb4.trans hb5)))⟩
                rw [wdiv] at hwr5
                simp only [List.append_assoc] at hwr5 ⊢
                exact hwr5
              clear hq5 hwr2 hwr3 hwr4 hwr5 HWR hbl hck hcp hb2 hb3 hb4 hb5 hxor
              go_wp2_with fail
              go_roundw
              case rel => exact ⟨k + 1, sv5, by omega, by go_num, HW.out.1, HW.out.2.1, HW.out.2.2⟩
              case measure => simp [intOf]; omega
            · have hok := HOK.out _ hwin
              simp only [] at hok
              obtain ⟨hok1, hok2⟩ := hok
              by_cases hre : a ≤ HZ ∧ b' ≤ LZ
              · have HN : Hid (encV l (k + 1) = ((encV l k).1 ++ (putBits 2 2 ++ putBits (wrap64 ((X / 2 ^ b' : Nat) : Int)) (64 - a - b')), some (a, b'))) := by
                  show _ = _
                  rw [encV_succ l h0, ← HXX.out, hwin, encX_reuse hX0 (by rw [← HHZ.out.1, ← HHZ.out.2]; exact hre)]; rfl
                obtain ⟨h1, h2⟩ := hre
                obtain ⟨m, hm⟩ : ∃ m, a + b' + m = 64 := ⟨64 - a - b', by omega⟩
                have hm1 : (64 : Int) - a - b' = (m : Int) := by omega
                clear hwin hX0
                go_wp2_with fail
                go_quiet (fail)
                go_wp2_with fail
                refine (hzr _).mono ?_
                rintro r w1 ⟨rfl, rfl⟩
                go_wp2_with fail
                have hq2 := rput_any w.heap.size w.heap.size 2 2 sv (encV l k).1 (wr.drewN nq) (by omega) (by omega) (HWR.out.drewN nq)
                refine hq2.mono ?_
                rintro r w2 ⟨rfl, ⟨sv2, hwr2⟩, hb2⟩
                clear hq2
                go_wp2_with fail
                have hq3 := rput_any w.heap.size w.heap.size m (wrap64 ((X : Int) / 2 ^ b')) sv2 ((encV l k).1 ++ putBits 2 2) w2 (by omega) (by rw [List.length_append, putBits_length]; omega) hwr2
                refine hq3.mono ?_
                rintro r w3 ⟨rfl, ⟨sv3, hwr3⟩, hb3⟩
                have HW : Hid (WinR (encV l (k + 1)).2 (.int .i64 a) (.int .i64 b') ∧ Wb w3 w.heap.size w.heap.size sv3 (encV l (k + 1)).1 ∧ Below w.heap.size w w3) := by
                  rw [HN.out]
                  refine ⟨Or.inr ⟨a, b', rfl, rfl, rfl⟩, ?_, (below_drewN hbl nq).trans (hb2.trans hb3)⟩
                  rw [List.append_assoc, wdiv] at hwr3
                  rw [show 64 - a - b' = m by omega]
                  exact hwr3
                clear hq3 hwr2 hwr3 HWR hbl hck hcp hb2 hb3 hxor
                go_wp2_with fail
                go_roundw
                case rel => exact ⟨k + 1, sv3, by omega, by go_num, HW.out.1, HW.out.2.1, HW.out.2.2⟩
                case measure => simp [intOf]; omega
              · have hre' : reuse (some (a, b')) X = none := by
                  have h := hre
                  rw [HHZ.out.1, HHZ.out.2] at h
                  unfold reuse
                  simp only [Option.bind_some]
                  rw [if_neg h]
                have hcs : HZ < a ∨ (a ≤ HZ ∧ LZ < b') := by omega
                clear hre
                have hre := hre'
                clear hre'
                rcases hcs with hcs | ⟨hcs, hcs'⟩
                · have HN : Hid (encV l (k + 1) = ((encV l k).1 ++ (putBits 3 2 ++ putBits (HZ : Int) 5 ++ putBits ((n' : Int) - 1) 6 ++ putBits (wrap64 ((X / 2 ^ LZ : Nat) : Int)) n'), some (HZ, LZ))) := by
                    show _ = _
                    rw [encV_succ l h0, ← HXX.out, hwin, encX_new hX0 hre, ← HHZ.out.1, ← HHZ.out.2, show ((64 - HZ - LZ - 1 : Nat) : Int) = (n' : Int) - 1 by omega, show 64 - HZ - LZ = n' by omega]; rfl
                  have hm1 : (64 : Int) - HZ - LZ = (n' : Int) := by omega
                  clear hwin hX0 hre
                  go_wp2_with fail
                  go_quiet (fail)
                  go_wp2_with fail
                  refine (hzr _).mono ?_
                  rintro r w1 ⟨rfl, rfl⟩
                  go_wp2_with fail
                  have hq2 := rput_any w.heap.size w.heap.size 2 3 sv (encV l k).1 (wr.drewN nq) (by omega) (by omega) (HWR.out.drewN nq)
                  refine hq2.mono ?_
                  rintro r w2 ⟨rfl, ⟨sv2, hwr2⟩, hb2⟩
                  clear hq2
                  go_wp2_with fail
                  have hq3 := rput_any w.heap.size w.heap.size 5 (HZ : Int) sv2 ((encV l k).1 ++ putBits 3 2) w2 (by omega) (by rw [List.length_append, putBits_length]; omega) hwr2
                  refine hq3.mono ?_
                  rintro r w3 ⟨rfl, ⟨sv3, hwr3⟩, hb3⟩
                  clear hq3
                  go_wp2_with fail
                  have hq4 := rput_any w.heap.size w.heap.size 6 ((n' : Int) - 1) sv3 ((encV l k).1 ++ putBits 3 2 ++ putBits (HZ : Int) 5) w3 (by omega) (by simp only [List.length_append, putBits_length]; omega) hwr3
                  refine hq4.mono ?_
                  rintro r w4 ⟨rfl, ⟨sv4, hwr4⟩, hb4⟩
                  clear hq4
                  go_wp2_with fail
                  have hq5 := rput_any w.heap.size w.heap.size n' (wrap64 ((X : Int) / 2 ^ LZ)) sv4 ((encV l k).1 ++ putBits 3 2 ++ putBits (HZ : Int) 5 ++ putBits ((n' : Int) - 1) 6) w4 (by omega) (by simp only [List.length_append, putBits_length]; omega) hwr4
                  refine hq5.mono ?_
                  rintro r w5 ⟨rfl, ⟨sv5, hwr5⟩, hb5⟩
                  have HW : Hid (WinR (encV l (k + 1)).2 (.int .i64 HZ) (.int .i64 LZ) ∧ Wb w5 w.heap.size w.heap.size sv5 (encV l (k + 1)).1 ∧ Below w.heap.size w w5) := by
                    rw [HN.out]
                    refine ⟨Or.inr ⟨HZ, LZ, rfl, rfl, rfl⟩, ?_, (below_drewN hbl nq).trans (hb2.trans (hb3.trans (hb4.trans hb5)))⟩
                    rw [wdiv] at hwr5
                    simp only [List.append_assoc] at hwr5 ⊢
                    exact hwr5
                  clear hq5 hwr2 hwr3 hwr4 hwr5 HWR hbl hck hcp hb2 hb3 hb4 hb5 hxor
                  go_wp2_with fail
                  go_roundw
                  case rel => exact ⟨k + 1, sv5, by omega, by go_num, HW.out.1, HW.out.2.1, HW.out.2.2⟩
                  case measure => simp [intOf]; omega
                · have HN : Hid (encV l (k + 1) = ((encV l k).1 ++ (putBits 3 2 ++ putBits (HZ : Int) 5 ++ putBits ((n' : Int) - 1) 6 ++ putBits (wrap64 ((X / 2 ^ LZ : Nat) : Int)) n'), some (HZ, LZ))) := by
                    show _ = _
                    rw [encV_succ l h0, ← HXX.out, hwin, encX_new hX0 hre, ← HHZ.out.1, ← HHZ.out.2, show ((64 - HZ - LZ - 1 : Nat) : Int) = (n' : Int) - 1 by omega, show 64 - HZ - LZ = n' by omega]; rfl
                  have hm1 : (64 : Int) - HZ - LZ = (n' : Int) := by omega
                  clear hwin hX0 hre
                  go_wp2_with fail
                  go_quiet (fail)
                  go_wp2_with fail
                  refine (hzr _).mono ?_
                  rintro r w1 ⟨rfl, rfl⟩
                  go_wp2_with fail
                  have hq2 := rput_any w.heap.size w.heap.size 2 3 sv (encV l k).1 (wr.drewN nq) (by omega) (by omega) (HWR.out.drewN nq)
                  refine hq2.mono ?_
                  rintro r w2 ⟨rfl, ⟨sv2, hwr2⟩, hb2⟩
                  clear hq2
                  go_wp2_with fail
                  have hq3 := rput_any w.heap.size w.heap.size 5 (HZ : Int) sv2 ((encV l k).1 ++ putBits 3 2) w2 (by omega) (by rw [List.length_append, putBits_length]; omega) hwr2
                  refine hq3.mono ?_
                  rintro r w3 ⟨rfl, ⟨sv3, hwr3⟩, hb3⟩
                  clear hq3
                  go_wp2_with fail
                  have hq4 := rput_any w.heap.size w.heap.size 6 ((n' : Int) - 1) sv3 ((encV l k).1 ++ putBits 3 2 ++ putBits (HZ : Int) 5) w3 (by omega) (by simp only [List.length_append, putBits_length]; omega) hwr3
                  refine hq4.mono ?_
                  rintro r w4 ⟨rfl, ⟨sv4, hwr4⟩, hb4⟩
                  clear hq4
                  go_wp2_with fail
                  have hq5 := rput_any w.heap.size w.heap.size n' (wrap64 ((X : Int) / 2 ^ LZ)) sv4 ((encV l k).1 ++ putBits 3 2 ++ putBits (HZ : Int) 5 ++ putBits ((n' : Int) - 1) 6) w4 (by omega) (by simp only [List.length_append, putBits_length]; omega) hwr4
                  refine hq5.mono ?_
                  rintro r w5 ⟨rfl, ⟨sv5, hwr5⟩, hb5⟩
                  have HW : Hid (WinR (encV l (k + 1)).2 (.int .i64 HZ) (.int .i64 LZ) ∧ Wb w5 w.heap.size w.heap.size sv5 (encV l (k + 1)).1 ∧ Below w.heap.size w w5) := by
                    rw [HN.out]
                    refine ⟨Or.inr ⟨HZ, LZ, rfl, rfl, rfl⟩, ?_, (below_drewN hbl nq).trans (hb2.trans (hb3.trans (hb4.trans hb5)))⟩
                    rw [wdiv] at hwr5
                    simp only [List.append_assoc] at hwr5 ⊢
                    exact hwr5
                  clear hq5 hwr2 hwr3 hwr4 hwr5 HWR hbl hck hcp hb2 hb3 hb4 hb5 hxor
                  go_wp2_with fail
                  go_roundw
                  case rel => exact ⟨k + 1, sv5, by omega, by go_num, HW.out.1, HW.out.2.1, HW.out.2.2⟩
                  case measure => simp [intOf]; omega
      · obtain rfl : k = n := by omega
        have hby := rbytes_any w.heap.size w.heap.size sv (encV l k).1 wr (by omega) HWR.out
        have HBB : Hid (packBV l = bytesOf (encV l k).1 ∧ packEV l = 0) := ⟨by unfold packBV; rw [if_pos HE.out, HL.out], HE.out⟩
        go_wp2_with fail
        refine hby.mono ?_
        rintro r w2 ⟨v, rfl, hown, hb2⟩
        have HF : Hid (w2.ownsRow w.heap.size 5 1 v (packBV l).length ((packBV l).map bv) ∧ Below w.heap.size w w2) := by
          rw [HBB.out.1]
          exact ⟨own_base hown hbl.size, hbl.trans (hb2.mono hbl.size)⟩
        clear hown hb2 hby HWR hbl
        go_wp2_with fail
        go_ret2
        refine ⟨v, ?_, HF.out.1, HF.out.2⟩
        rw [HBB.out.2]; rfl
  · have HE : Hid (packEV l = 2 ∧ packBV l = []) := by
      have h1 : packEV l = 2 := by unfold packEV; rw [if_pos (by omega)]
      refine ⟨h1, ?_⟩
      unfold packBV; rw [if_neg (by rw [h1]; decide)]
    clear hl
    go_enter Try.func22, Try.ntmps22
    go_wp2_with fail
    go_ret2
    refine ⟨.slice none 0 0, by rw [HE.out.1]; rfl, ?_, Below.refl _ _⟩
    rw [HE.out.2]
    exact World.ownsRow_nil _ _ _ _
end Go.Proofs.Ytnbamngancchmaa
