/- Files together have as many bytes as the quota, no more. Without conditions. -/
import Derived.Test.YtedjfbkfaioihaaTwo
import Derived.Test.YtedjfbkfaioihaaRows
import Derived.Test.YtedjfbkfaioihaaChecked
namespace Go.Proofs.Ytedjfbkfaioihaa.diskRoom
open Go.ChangeShapes Go.WideShapes Go.ChangeAt Go.RowKit Go.Deep

set_option maxRecDepth 100000 in
set_option maxHeartbeats 4000000 in
theorem walk11 (u m n lf : Nat) (hu : u ≤ 5000) (hm : m ≤ 5000) (hn : n ≤ 5000) (ha : m + lf = u) (hb : n ≤ lf) (w : World) : Calls Try.prog 4 #[.int .i64 (u : Int), .int .i64 (m : Int), .int .i64 (n : Int)] w fun e w' => e = .returned (.bool true) ∧ Below w.heap.size w w' := by
  have hal := alive11 w
  have p0 : decide ((u : Int) < 0) = false := decide_eq_false (by omega)
  have p1 : decide ((5000 : Int) < (u : Int)) = false := decide_eq_false (by omega)
  have p2 : decide ((m : Int) < 0) = false := decide_eq_false (by omega)
  have p3 : decide ((5000 : Int) < (m : Int)) = false := decide_eq_false (by omega)
  have p4 : decide ((n : Int) < 0) = false := decide_eq_false (by omega)
  have p5 : decide ((5000 : Int) < (n : Int)) = false := decide_eq_false (by omega)
  have q1 : decide ((u : Int) < (m : Int)) = false := decide_eq_false (by omega)
  have q1n : decide (u < m) = false := decide_eq_false (by omega)
  have q2n : decide (lf < n) = false := decide_eq_false (by omega)
  have q2 : decide ((lf : Int) < (n : Int)) = false := decide_eq_false (by omega)
  have W1 : wrap64 ((u : Int) - (m : Int)) = (lf : Int) := by rw [IntWalk.wrap64_in _ (by omega)]; omega
  have W2 : wrap64 ((lf : Int) - (n : Int)) = (lf : Int) - (n : Int) := IntWalk.wrap64_in _ (by omega)
  have hmk := Try.made m (by omega)
  have hmk2 := Try.made n (by omega)
  have hq : (0 : Int) ≤ (u : Int) ∧ (u : Int) ≤ 67108864 := by omega
  have hA : ((0 + 0 + m : Nat) : Int) ≤ (u : Int) := by omega
  have hB : ((m + 0 + n : Nat) : Int) ≤ (u : Int) := by omega
  have HV : Hid ((u : Int) - ((m + n : Nat) : Int) = (lf : Int) - (n : Int)) := Lib.hid (by omega)
  have m6 : m ≤ 1000000 := by omega
  have n6 : n ≤ 1000000 := by omega
  have HQ := Lib.hid (And.intro hq (And.intro hA (And.intro hB (And.intro m6 n6))))
  clear hu hm hn ha hb hq hA hB m6 n6
  go_enter Try.func4, Try.ntmps4
  go_wp2_with fail
  refine hal.mono ?_
  clear hal
  rintro e w1 ⟨rfl, hb1⟩
  go_wp2_with fail
  refine (At.new (u : Int) hb1).mono ?_
  clear hb1
  rintro e w2 ⟨D, rfl, h2⟩
  have c1 := h2.mkA HQ.out.1
  go_wp2_with fail
  refine c1.mono ?_
  clear c1 h2
  rintro e w3 ⟨rfl, h3⟩
  have c1 := h3.mkAB
  clear h3
  go_wp2_with fail
  refine c1.mono ?_
  clear c1
  rintro e w4 ⟨rfl, h4⟩
  have h4b := h4.below ((Below.refl _ w4).alloc (Nat.le_refl _) (.cells (madeCells #[.int .u8 0] m) 5))
  have c1 := (h4b.app2A _ m (zeros m) m (zeros_len m) (made_rd w4 m HQ.out.2.2.2.1) (zeros_lt m) (by have := HQ.out.2.2.2.1; show 0 + m ≤ _; omega) (by show 0 ≤ _; omega) (by decide)).1 HQ.out.2.1
  clear h4 h4b
  go_wp2_with fail
  refine c1.mono ?_
  clear c1
  rintro e w5 ⟨rfl, h5⟩
  have h5' : At w w5 D (two (u : Int) (zeros m) [] acAB 3) := h5
  have h5b := h5'.below ((Below.refl _ w5).alloc (Nat.le_refl _) (.cells (madeCells #[.int .u8 0] n) 5))
  have hxl : (zeros m : List Nat).length = m := zeros_len m
  have c2 := (h5b.app2B _ n (zeros n) n (zeros_len n) (made_rd w5 n HQ.out.2.2.2.2) (zeros_lt n) (by have := HQ.out.2.2.2.2; show 0 + n ≤ _; omega) (by have := HQ.out.2.2.2.1; rw [hxl]; omega) (by decide)).1 (by rw [hxl]; exact HQ.out.2.2.1)
  have HXL := Lib.hid hxl
  clear h5 h5b h5' hxl
  go_wp2_with fail
  refine (num17 _ _).mono ?_
  rintro e w9 ⟨rfl, hw9⟩
  rw [hw9]
  clear hw9 w9
  go_wp2_with fail
  refine (num17 _ _).mono ?_
  rintro e w9 ⟨rfl, hw9⟩
  rw [hw9]
  clear hw9 w9
  go_wp2_with fail
  refine c2.mono ?_
  clear c2
  rintro e w6 ⟨rfl, h6⟩
  have h6' : At w w6 D (two (u : Int) (zeros m) (zeros n) acAB 4) := h6
  have hyl : (zeros n : List Nat).length = n := zeros_len n
  have hro := h6'.room2 (by rw [HXL.out, hyl]; have := HQ.out.2.2.2; omega)
  rw [HXL.out, hyl, HV.out] at hro
  clear h6 h6' hyl
  go_wp2_with fail
  refine (num17 _ _).mono ?_
  rintro e w9 ⟨rfl, hw9⟩
  rw [hw9]
  clear hw9 w9
  go_wp2_with fail
  refine (num17 _ _).mono ?_
  rintro e w9 ⟨rfl, hw9⟩
  rw [hw9]
  clear hw9 w9
  go_wp2_with fail
  refine hro.mono ?_
  clear hro
  rintro e w7 ⟨rfl, h7⟩
  go_wp2_with fail
  refine (num17 _ _).mono ?_
  rintro e w9 ⟨rfl, hw9⟩
  rw [hw9]
  clear hw9 w9
  have c1 := h7.rm1 (by decide) (by decide)
  clear h7
  go_wp2_with fail
  refine c1.mono ?_
  clear c1
  rintro e w8 ⟨rfl, h8⟩
  have c1 := h8.rm2 (by decide) (by decide)
  clear h8
  go_wp2_with fail
  refine c1.mono ?_
  clear c1
  rintro e w10 ⟨rfl, h10⟩
  have c1 := h10.roomG
  clear h10
  go_wp2_with fail
  refine c1.mono ?_
  clear c1
  rintro e w11 ⟨rfl, h11⟩
  have HB := Lib.hid h11.1
  clear h11
  go_wp2_with fail
  go_ret
  exact ⟨rfl, HB.out⟩
set_option maxRecDepth 100000 in
set_option maxHeartbeats 4000000 in
theorem walk10 (u m n lf : Nat) (hu : u ≤ 5000) (hm : m ≤ 5000) (hn : n ≤ 5000) (ha : m + lf = u) (hb : lf < n) (w : World) : Calls Try.prog 4 #[.int .i64 (u : Int), .int .i64 (m : Int), .int .i64 (n : Int)] w fun e w' => e = .returned (.bool true) ∧ Below w.heap.size w w' := by
  have hal := alive11 w
  have p0 : decide ((u : Int) < 0) = false := decide_eq_false (by omega)
  have p1 : decide ((5000 : Int) < (u : Int)) = false := decide_eq_false (by omega)
  have p2 : decide ((m : Int) < 0) = false := decide_eq_false (by omega)
  have p3 : decide ((5000 : Int) < (m : Int)) = false := decide_eq_false (by omega)
  have p4 : decide ((n : Int) < 0) = false := decide_eq_false (by omega)
  have p5 : decide ((5000 : Int) < (n : Int)) = false := decide_eq_false (by omega)
  have q1 : decide ((u : Int) < (m : Int)) = false := decide_eq_false (by omega)
  have q1n : decide (u < m) = false := decide_eq_false (by omega)
  have q2n : decide (lf < n) = true := decide_eq_true (by omega)
  have q2 : decide ((lf : Int) < (n : Int)) = true := decide_eq_true (by omega)
  have W1 : wrap64 ((u : Int) - (m : Int)) = (lf : Int) := by rw [IntWalk.wrap64_in _ (by omega)]; omega
  have hmk := Try.made m (by omega)
  have hmk2 := Try.made n (by omega)
  have hq : (0 : Int) ≤ (u : Int) ∧ (u : Int) ≤ 67108864 := by omega
  have hA : ((0 + 0 + m : Nat) : Int) ≤ (u : Int) := by omega
  have hB : (u : Int) < ((m + 0 + n : Nat) : Int) := by omega
  have HV : Hid ((u : Int) - ((m + 0 : Nat) : Int) = (lf : Int)) := Lib.hid (by omega)
  have m6 : m ≤ 1000000 := by omega
  have n6 : n ≤ 1000000 := by omega
  have HQ := Lib.hid (And.intro hq (And.intro hA (And.intro hB (And.intro m6 n6))))
  clear hu hm hn ha hb hq hA hB m6 n6
  go_enter Try.func4, Try.ntmps4
  go_wp2_with fail
  refine hal.mono ?_
  clear hal
  rintro e w1 ⟨rfl, hb1⟩
  go_wp2_with fail
  refine (At.new (u : Int) hb1).mono ?_
  clear hb1
  rintro e w2 ⟨D, rfl, h2⟩
  have c1 := h2.mkA HQ.out.1
  go_wp2_with fail
  refine c1.mono ?_
  clear c1 h2
  rintro e w3 ⟨rfl, h3⟩
  have c1 := h3.mkAB
  clear h3
  go_wp2_with fail
  refine c1.mono ?_
  clear c1
  rintro e w4 ⟨rfl, h4⟩
  have h4b := h4.below ((Below.refl _ w4).alloc (Nat.le_refl _) (.cells (madeCells #[.int .u8 0] m) 5))
  have c1 := (h4b.app2A _ m (zeros m) m (zeros_len m) (made_rd w4 m HQ.out.2.2.2.1) (zeros_lt m) (by have := HQ.out.2.2.2.1; show 0 + m ≤ _; omega) (by show 0 ≤ _; omega) (by decide)).1 HQ.out.2.1
  clear h4 h4b
  go_wp2_with fail
  refine c1.mono ?_
  clear c1
  rintro e w5 ⟨rfl, h5⟩
  have h5' : At w w5 D (two (u : Int) (zeros m) [] acAB 3) := h5
  have h5b := h5'.below ((Below.refl _ w5).alloc (Nat.le_refl _) (.cells (madeCells #[.int .u8 0] n) 5))
  have hxl : (zeros m : List Nat).length = m := zeros_len m
  have c2 := (h5b.app2B _ n (zeros n) n (zeros_len n) (made_rd w5 n HQ.out.2.2.2.2) (zeros_lt n) (by have := HQ.out.2.2.2.2; show 0 + n ≤ _; omega) (by have := HQ.out.2.2.2.1; rw [hxl]; omega) (by decide)).2 (by rw [hxl]; exact HQ.out.2.2.1)
  have HXL := Lib.hid hxl
  clear h5 h5b h5' hxl
  go_wp2_with fail
  refine (num17 _ _).mono ?_
  rintro e w9 ⟨rfl, hw9⟩
  rw [hw9]
  clear hw9 w9
  go_wp2_with fail
  refine (num17 _ _).mono ?_
  rintro e w9 ⟨rfl, hw9⟩
  rw [hw9]
  clear hw9 w9
  go_wp2_with fail
  refine c2.mono ?_
  clear c2
  rintro e w6 ⟨rfl, h6⟩
  have h6' : At w w6 D (two (u : Int) (zeros m) ([]) acAB 3) := h6
  have hyl : ([] : List Nat).length = 0 := rfl
  have hro := h6'.room2 (by rw [HXL.out, hyl]; have := HQ.out.2.2.2; omega)
  rw [HXL.out, hyl, HV.out] at hro
  clear h6 h6' hyl
  go_wp2_with fail
  refine (num17 _ _).mono ?_
  rintro e w9 ⟨rfl, hw9⟩
  rw [hw9]
  clear hw9 w9
  go_wp2_with fail
  refine (num17 _ _).mono ?_
  rintro e w9 ⟨rfl, hw9⟩
  rw [hw9]
  clear hw9 w9
  go_wp2_with fail
  refine (num17 _ _).mono ?_
  rintro e w9 ⟨rfl, hw9⟩
  rw [hw9]
  clear hw9 w9
  go_wp2_with fail
  refine hro.mono ?_
  clear hro
  rintro e w7 ⟨rfl, h7⟩
  have c1 := h7.rm1 (by decide) (by decide)
  clear h7
  go_wp2_with fail
  refine c1.mono ?_
  clear c1
  rintro e w8 ⟨rfl, h8⟩
  have c1 := h8.rm2 (by decide) (by decide)
  clear h8
  go_wp2_with fail
  refine c1.mono ?_
  clear c1
  rintro e w10 ⟨rfl, h10⟩
  have c1 := h10.roomG
  clear h10
  go_wp2_with fail
  refine c1.mono ?_
  clear c1
  rintro e w11 ⟨rfl, h11⟩
  have HB := Lib.hid h11.1
  clear h11
  go_wp2_with fail
  go_ret
  exact ⟨rfl, HB.out⟩
set_option maxRecDepth 100000 in
set_option maxHeartbeats 4000000 in
theorem walk01 (u m n : Nat) (hu : u ≤ 5000) (hm : m ≤ 5000) (hn : n ≤ 5000) (ha : u < m) (hb : n ≤ u) (w : World) : Calls Try.prog 4 #[.int .i64 (u : Int), .int .i64 (m : Int), .int .i64 (n : Int)] w fun e w' => e = .returned (.bool true) ∧ Below w.heap.size w w' := by
  have hal := alive11 w
  have p0 : decide ((u : Int) < 0) = false := decide_eq_false (by omega)
  have p1 : decide ((5000 : Int) < (u : Int)) = false := decide_eq_false (by omega)
  have p2 : decide ((m : Int) < 0) = false := decide_eq_false (by omega)
  have p3 : decide ((5000 : Int) < (m : Int)) = false := decide_eq_false (by omega)
  have p4 : decide ((n : Int) < 0) = false := decide_eq_false (by omega)
  have p5 : decide ((5000 : Int) < (n : Int)) = false := decide_eq_false (by omega)
  have q1 : decide ((u : Int) < (m : Int)) = true := decide_eq_true (by omega)
  have q1n : decide (u < m) = true := decide_eq_true (by omega)
  have q2n : decide (u < n) = false := decide_eq_false (by omega)
  have q2 : decide ((u : Int) < (n : Int)) = false := decide_eq_false (by omega)
  have W2 : wrap64 ((u : Int) - (n : Int)) = (u : Int) - (n : Int) := IntWalk.wrap64_in _ (by omega)
  have hmk := Try.made m (by omega)
  have hmk2 := Try.made n (by omega)
  have hq : (0 : Int) ≤ (u : Int) ∧ (u : Int) ≤ 67108864 := by omega
  have hA : (u : Int) < ((0 + 0 + m : Nat) : Int) := by omega
  have hB : ((0 + 0 + n : Nat) : Int) ≤ (u : Int) := by omega
  have HV : Hid ((u : Int) - ((0 + n : Nat) : Int) = (u : Int) - (n : Int)) := Lib.hid (by omega)
  have m6 : m ≤ 1000000 := by omega
  have n6 : n ≤ 1000000 := by omega
  have HQ := Lib.hid (And.intro hq (And.intro hA (And.intro hB (And.intro m6 n6))))
  clear hu hm hn ha hb hq hA hB m6 n6
  go_enter Try.func4, Try.ntmps4
  go_wp2_with fail
  refine hal.mono ?_
  clear hal
  rintro e w1 ⟨rfl, hb1⟩
  go_wp2_with fail
  refine (At.new (u : Int) hb1).mono ?_
  clear hb1
  rintro e w2 ⟨D, rfl, h2⟩
  have c1 := h2.mkA HQ.out.1
  go_wp2_with fail
  refine c1.mono ?_
  clear c1 h2
  rintro e w3 ⟨rfl, h3⟩
  have c1 := h3.mkAB
  clear h3
  go_wp2_with fail
  refine c1.mono ?_
  clear c1
  rintro e w4 ⟨rfl, h4⟩
  have h4b := h4.below ((Below.refl _ w4).alloc (Nat.le_refl _) (.cells (madeCells #[.int .u8 0] m) 5))
  have c1 := (h4b.app2A _ m (zeros m) m (zeros_len m) (made_rd w4 m HQ.out.2.2.2.1) (zeros_lt m) (by have := HQ.out.2.2.2.1; show 0 + m ≤ _; omega) (by show 0 ≤ _; omega) (by decide)).2 HQ.out.2.1
  clear h4 h4b
  go_wp2_with fail
  refine c1.mono ?_
  clear c1
  rintro e w5 ⟨rfl, h5⟩
  have h5' : At w w5 D (two (u : Int) ([]) [] acAB 2) := h5
  have h5b := h5'.below ((Below.refl _ w5).alloc (Nat.le_refl _) (.cells (madeCells #[.int .u8 0] n) 5))
  have hxl : ([] : List Nat).length = 0 := rfl
  have c2 := (h5b.app2B _ n (zeros n) n (zeros_len n) (made_rd w5 n HQ.out.2.2.2.2) (zeros_lt n) (by have := HQ.out.2.2.2.2; show 0 + n ≤ _; omega) (by have := HQ.out.2.2.2.1; rw [hxl]; omega) (by decide)).1 (by rw [hxl]; exact HQ.out.2.2.1)
  have HXL := Lib.hid hxl
  clear h5 h5b h5' hxl
  go_wp2_with fail
  refine (num17 _ _).mono ?_
  rintro e w9 ⟨rfl, hw9⟩
  rw [hw9]
  clear hw9 w9
  go_wp2_with fail
  refine (num17 _ _).mono ?_
  rintro e w9 ⟨rfl, hw9⟩
  rw [hw9]
  clear hw9 w9
  go_wp2_with fail
  refine c2.mono ?_
  clear c2
  rintro e w6 ⟨rfl, h6⟩
  have h6' : At w w6 D (two (u : Int) ([]) (zeros n) acAB 3) := h6
  have hyl : (zeros n : List Nat).length = n := zeros_len n
  have hro := h6'.room2 (by rw [HXL.out, hyl]; have := HQ.out.2.2.2; omega)
  rw [HXL.out, hyl, HV.out] at hro
  clear h6 h6' hyl
  go_wp2_with fail
  refine (num17 _ _).mono ?_
  rintro e w9 ⟨rfl, hw9⟩
  rw [hw9]
  clear hw9 w9
  go_wp2_with fail
  refine (num17 _ _).mono ?_
  rintro e w9 ⟨rfl, hw9⟩
  rw [hw9]
  clear hw9 w9
  go_wp2_with fail
  refine hro.mono ?_
  clear hro
  rintro e w7 ⟨rfl, h7⟩
  go_wp2_with fail
  refine (num17 _ _).mono ?_
  rintro e w9 ⟨rfl, hw9⟩
  rw [hw9]
  clear hw9 w9
  have c1 := h7.rm1 (by decide) (by decide)
  clear h7
  go_wp2_with fail
  refine c1.mono ?_
  clear c1
  rintro e w8 ⟨rfl, h8⟩
  have c1 := h8.rm2 (by decide) (by decide)
  clear h8
  go_wp2_with fail
  refine c1.mono ?_
  clear c1
  rintro e w10 ⟨rfl, h10⟩
  have c1 := h10.roomG
  clear h10
  go_wp2_with fail
  refine c1.mono ?_
  clear c1
  rintro e w11 ⟨rfl, h11⟩
  have HB := Lib.hid h11.1
  clear h11
  go_wp2_with fail
  go_ret
  exact ⟨rfl, HB.out⟩
set_option maxRecDepth 100000 in
set_option maxHeartbeats 4000000 in
theorem walk00 (u m n : Nat) (hu : u ≤ 5000) (hm : m ≤ 5000) (hn : n ≤ 5000) (ha : u < m) (hb : u < n) (w : World) : Calls Try.prog 4 #[.int .i64 (u : Int), .int .i64 (m : Int), .int .i64 (n : Int)] w fun e w' => e = .returned (.bool true) ∧ Below w.heap.size w w' := by
  have hal := alive11 w
  have p0 : decide ((u : Int) < 0) = false := decide_eq_false (by omega)
  have p1 : decide ((5000 : Int) < (u : Int)) = false := decide_eq_false (by omega)
  have p2 : decide ((m : Int) < 0) = false := decide_eq_false (by omega)
  have p3 : decide ((5000 : Int) < (m : Int)) = false := decide_eq_false (by omega)
  have p4 : decide ((n : Int) < 0) = false := decide_eq_false (by omega)
  have p5 : decide ((5000 : Int) < (n : Int)) = false := decide_eq_false (by omega)
  have q1 : decide ((u : Int) < (m : Int)) = true := decide_eq_true (by omega)
  have q1n : decide (u < m) = true := decide_eq_true (by omega)
  have q2n : decide (u < n) = true := decide_eq_true (by omega)
  have q2 : decide ((u : Int) < (n : Int)) = true := decide_eq_true (by omega)
  have hmk := Try.made m (by omega)
  have hmk2 := Try.made n (by omega)
  have hq : (0 : Int) ≤ (u : Int) ∧ (u : Int) ≤ 67108864 := by omega
  have hA : (u : Int) < ((0 + 0 + m : Nat) : Int) := by omega
  have hB : (u : Int) < ((0 + 0 + n : Nat) : Int) := by omega
  have HV : Hid ((u : Int) - ((0 + 0 : Nat) : Int) = (u : Int)) := Lib.hid (by omega)
  have m6 : m ≤ 1000000 := by omega
  have n6 : n ≤ 1000000 := by omega
  have HQ := Lib.hid (And.intro hq (And.intro hA (And.intro hB (And.intro m6 n6))))
  clear hu hm hn ha hb hq hA hB m6 n6
  go_enter Try.func4, Try.ntmps4
  go_wp2_with fail
  refine hal.mono ?_
  clear hal
  rintro e w1 ⟨rfl, hb1⟩
  go_wp2_with fail
  refine (At.new (u : Int) hb1).mono ?_
  clear hb1
  rintro e w2 ⟨D, rfl, h2⟩
  have c1 := h2.mkA HQ.out.1
  go_wp2_with fail
  refine c1.mono ?_
  clear c1 h2
  rintro e w3 ⟨rfl, h3⟩
  have c1 := h3.mkAB
  clear h3
  go_wp2_with fail
  refine c1.mono ?_
  clear c1
  rintro e w4 ⟨rfl, h4⟩
  have h4b := h4.below ((Below.refl _ w4).alloc (Nat.le_refl _) (.cells (madeCells #[.int .u8 0] m) 5))
  have c1 := (h4b.app2A _ m (zeros m) m (zeros_len m) (made_rd w4 m HQ.out.2.2.2.1) (zeros_lt m) (by have := HQ.out.2.2.2.1; show 0 + m ≤ _; omega) (by show 0 ≤ _; omega) (by decide)).2 HQ.out.2.1
  clear h4 h4b
  go_wp2_with fail
  refine c1.mono ?_
  clear c1
  rintro e w5 ⟨rfl, h5⟩
  have h5' : At w w5 D (two (u : Int) ([]) [] acAB 2) := h5
  have h5b := h5'.below ((Below.refl _ w5).alloc (Nat.le_refl _) (.cells (madeCells #[.int .u8 0] n) 5))
  have hxl : ([] : List Nat).length = 0 := rfl
  have c2 := (h5b.app2B _ n (zeros n) n (zeros_len n) (made_rd w5 n HQ.out.2.2.2.2) (zeros_lt n) (by have := HQ.out.2.2.2.2; show 0 + n ≤ _; omega) (by have := HQ.out.2.2.2.1; rw [hxl]; omega) (by decide)).2 (by rw [hxl]; exact HQ.out.2.2.1)
  have HXL := Lib.hid hxl
  clear h5 h5b h5' hxl
  go_wp2_with fail
  refine (num17 _ _).mono ?_
  rintro e w9 ⟨rfl, hw9⟩
  rw [hw9]
  clear hw9 w9
  go_wp2_with fail
  refine (num17 _ _).mono ?_
  rintro e w9 ⟨rfl, hw9⟩
  rw [hw9]
  clear hw9 w9
  go_wp2_with fail
  refine c2.mono ?_
  clear c2
  rintro e w6 ⟨rfl, h6⟩
  have h6' : At w w6 D (two (u : Int) ([]) ([]) acAB 2) := h6
  have hyl : ([] : List Nat).length = 0 := rfl
  have hro := h6'.room2 (by rw [HXL.out]; have := HQ.out.2.2.2; omega)
  rw [HXL.out, HV.out] at hro
  clear h6 h6' hyl
  go_wp2_with fail
  refine (num17 _ _).mono ?_
  rintro e w9 ⟨rfl, hw9⟩
  rw [hw9]
  clear hw9 w9
  go_wp2_with fail
  refine (num17 _ _).mono ?_
  rintro e w9 ⟨rfl, hw9⟩
  rw [hw9]
  clear hw9 w9
  go_wp2_with fail
  refine (num17 _ _).mono ?_
  rintro e w9 ⟨rfl, hw9⟩
  rw [hw9]
  clear hw9 w9
  go_wp2_with fail
  refine hro.mono ?_
  clear hro
  rintro e w7 ⟨rfl, h7⟩
  have c1 := h7.rm1 (by decide) (by decide)
  clear h7
  go_wp2_with fail
  refine c1.mono ?_
  clear c1
  rintro e w8 ⟨rfl, h8⟩
  have c1 := h8.rm2 (by decide) (by decide)
  clear h8
  go_wp2_with fail
  refine c1.mono ?_
  clear c1
  rintro e w10 ⟨rfl, h10⟩
  have c1 := h10.roomG
  clear h10
  go_wp2_with fail
  refine c1.mono ?_
  clear c1
  rintro e w11 ⟨rfl, h11⟩
  have HB := Lib.hid h11.1
  clear h11
  go_wp2_with fail
  go_ret
  exact ⟨rfl, HB.out⟩
set_option maxRecDepth 100000 in
set_option maxHeartbeats 4000000 in
theorem walk (q a b : Int) (w : World) : Calls Try.prog 4 #[.int .i64 q, .int .i64 a, .int .i64 b] w fun e w' => e = .returned (.bool true) ∧ Below w.heap.size w w' := by
  have hal := alive11 w
  by_cases o0 : q < 0
  · have p0 : decide (q < 0) = true := decide_eq_true o0
    go_enter Try.func4, Try.ntmps4
    go_wp2_with fail
    refine hal.mono ?_
    rintro e w1 ⟨rfl, hb1⟩
    go_wp2_with fail
    go_ret
    exact ⟨rfl, hb1⟩
  have p0 : decide (q < 0) = false := decide_eq_false o0
  by_cases o1 : 5000 < q
  · have p1 : decide (5000 < q) = true := decide_eq_true o1
    go_enter Try.func4, Try.ntmps4
    go_wp2_with fail
    refine hal.mono ?_
    rintro e w1 ⟨rfl, hb1⟩
    go_wp2_with fail
    go_ret
    exact ⟨rfl, hb1⟩
  have p1 : decide (5000 < q) = false := decide_eq_false o1
  by_cases o2 : a < 0
  · have p2 : decide (a < 0) = true := decide_eq_true o2
    go_enter Try.func4, Try.ntmps4
    go_wp2_with fail
    refine hal.mono ?_
    rintro e w1 ⟨rfl, hb1⟩
    go_wp2_with fail
    go_ret
    exact ⟨rfl, hb1⟩
  have p2 : decide (a < 0) = false := decide_eq_false o2
  by_cases o3 : 5000 < a
  · have p3 : decide (5000 < a) = true := decide_eq_true o3
    go_enter Try.func4, Try.ntmps4
    go_wp2_with fail
    refine hal.mono ?_
    rintro e w1 ⟨rfl, hb1⟩
    go_wp2_with fail
    go_ret
    exact ⟨rfl, hb1⟩
  have p3 : decide (5000 < a) = false := decide_eq_false o3
  by_cases o4 : b < 0
  · have p4 : decide (b < 0) = true := decide_eq_true o4
    go_enter Try.func4, Try.ntmps4
    go_wp2_with fail
    refine hal.mono ?_
    rintro e w1 ⟨rfl, hb1⟩
    go_wp2_with fail
    go_ret
    exact ⟨rfl, hb1⟩
  have p4 : decide (b < 0) = false := decide_eq_false o4
  by_cases o5 : 5000 < b
  · have p5 : decide (5000 < b) = true := decide_eq_true o5
    go_enter Try.func4, Try.ntmps4
    go_wp2_with fail
    refine hal.mono ?_
    rintro e w1 ⟨rfl, hb1⟩
    go_wp2_with fail
    go_ret
    exact ⟨rfl, hb1⟩
  have p5 : decide (5000 < b) = false := decide_eq_false o5
  obtain ⟨u, rfl⟩ : ∃ u : Nat, q = u := ⟨q.toNat, by omega⟩
  obtain ⟨m, rfl⟩ : ∃ m : Nat, a = m := ⟨a.toNat, by omega⟩
  obtain ⟨n, rfl⟩ : ∃ n : Nat, b = n := ⟨b.toNat, by omega⟩
  by_cases h1 : m ≤ u
  · obtain ⟨lf, hlf⟩ : ∃ lf, m + lf = u := ⟨u - m, by omega⟩
    by_cases h2 : n ≤ lf
    · exact walk11 u m n lf (by omega) (by omega) (by omega) hlf h2 w
    · exact walk10 u m n lf (by omega) (by omega) (by omega) hlf (by omega) w
  · by_cases h2 : n ≤ u
    · exact walk01 u m n (by omega) (by omega) (by omega) (by omega) h2 w
    · exact walk00 u m n (by omega) (by omega) (by omega) (by omega) (by omega) w

set_option maxRecDepth 100000 in
theorem lifted (os : Os) (started : os.Started) (H : Type) (enc : TypeId × Value → H) :
    ReturnsInHanded {} Try.checked os 4 .any (Rows.diskRoomSpec.pre6 enc Try.prog Try.f4 Rows.diskRoomRow.domain false) (Rows.diskRoomSpec.post enc Try.prog Try.f4 false true false false) := by
  refine returnsInHanded_of_change_sized (C := Try.checked) Try.own started (by kernel_rfl) Try.func4
    (ChangeSpec.witness6 (enc := enc) (C := Try.checked) false ⟨#[], #[.int .i64 0, .int .i64 0, .int .i64 0], []⟩ 8 (by kernel_rfl) (by kernel_rfl) (by kernel_rfl) (by kernel_rfl)) ?_
  intro W base args ds gs before hval0 hW hcnd hwt0 _
  have hval : ∀ (j : Nat) t v, Try.f4.params[j]? = some t → args[j]? = some v → Value.okWide Try.prog W .any base t v := hval0
  have hW' := hW
  have hWl := hW
  obtain ⟨p, q, hA0, hV, rfl, _, _⟩ := hW
  have hA : DataW.TrodAll enc Try.prog W 0 (fun _ => true) true Try.f4.params.toList args.toList ds p := hA0
  have hlt : ∀ x ∈ p, x.block < W.heap.size := fun x hx => hWl.lt x (List.mem_append_left _ hx)
  rw [Try.params4] at hA hval
  obtain ⟨v0, vs0, d0, ds0, p0, q0, hargs, rfl, rfl, h0, r0⟩ := trodAll_cons hA
  obtain ⟨v1, vs1, d1, ds1, p1, q1, he1, rfl, rfl, h1, r1⟩ := trodAll_cons r0
  obtain ⟨v2, vs2, d2, ds2, p2, q2, he2, rfl, rfl, h2, r2⟩ := trodAll_cons r1
  obtain ⟨rfl, rfl, rfl⟩ := trodAll_nil r2
  subst he2
  subst he1
  obtain rfl : args = #[v0, v1, v2] := by cases args; simp_all
  obtain ⟨rfl, rfl⟩ := trodVars_none hV
  obtain ⟨x0, rfl⟩ := okWide_int Try.underlying3 (hval 0 3 v0 rfl rfl)
  obtain ⟨x1, rfl⟩ := okWide_int Try.underlying3 (hval 1 3 v1 rfl rfl)
  obtain ⟨x2, rfl⟩ := okWide_int Try.underlying3 (hval 2 3 v2 rfl rfl)
  refine (walk x0 x1 x2 W).mono fun e W' ⟨he, hb⟩ => ?_
  subst he
  exact ⟨_, rfl, law_post Try.laidOut (by kernel_rfl) rfl rfl Try.underlying4 hW' ⟨rfl, rfl, rfl⟩ hb⟩

theorem over : Rows.diskRoomRow.holds Try.pinned (OpenSpec.ofChange Rows.diskRoomSpec) :=
  OpenClaim.holds_of_wide 4 Try.f4 rfl rfl rfl rfl rfl rfl rfl ⟨rfl, rfl, rfl, rfl, rfl⟩ rfl rfl rfl rfl rfl (by kernel_rfl) Try.func4 (by kernel_rfl)
    (of_decide_eq_true (by kernel_rfl)) (by unfold Func.isWrapper; first | (rw [if_pos (by decide +kernel)]; kernel_rfl) | (rw [if_neg (by decide +kernel)]; exact ⟨rfl, rfl⟩))
    (fun os started H enc _ => lifted os started H enc)

/-- THE STATEMENT. -/
theorem proved : Rows.DiskRoomSaid :=
  over
end Go.Proofs.Ytedjfbkfaioihaa.diskRoom
