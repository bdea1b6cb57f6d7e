/- What was synced, with its name, is there behind every crash. Without conditions. -/
import Derived.Test.YtedjfbkfaioihaaTwo
import Derived.Test.YtedjfbkfaioihaaRows
import Derived.Test.YtedjfbkfaioihaaChecked
namespace Go.Proofs.Ytedjfbkfaioihaa.diskSure
open Go.ChangeShapes Go.WideShapes Go.ChangeAt Go.RowKit Go.Deep

theorem XL_take (p : List Nat) (lo hi s : Nat) (h : s ≤ lo) : (XL p lo hi).take s = p.take s := by
  unfold XL
  refine List.ext_getElem? fun i => ?_
  by_cases hi2 : i < s
  · rw [List.getElem?_take_of_lt hi2, List.getElem?_take_of_lt hi2, List.getElem?_mapIdx]
    cases hp : p[i]? with
    | none => rfl
    | some y =>
      show some (if lo ≤ i ∧ i < hi then _ else _) = _
      rw [if_neg (by omega)]
  · rw [List.getElem?_eq_none (by rw [List.length_take]; omega), List.getElem?_eq_none (by rw [List.length_take]; omega)]
theorem keptL_take {x : Fl} {k : Int} {g : Bool} (hs : x.s ≤ x.b.length) : (keptL x k g).take x.s = x.b.take x.s := by
  have hn := keptN_le (k := k) hs
  have e : (x.b.take (keptN x k)).take x.s = x.b.take x.s := by rw [List.take_take, Nat.min_eq_left hn.1]
  by_cases h : g = true ∧ x.s < keptN x k
  · rw [keptL_yes hs h, XL_take _ _ _ _ (Nat.le_max_left _ _), e]
  · rw [keptL_no h, e]
/-- Ahead of the crash; behind it. -/
def pre (s m : List Nat) : Ds := ⟨10000, [⟨s ++ m, s.length⟩, ⟨[], 0⟩], [⟨nA, 0⟩, ⟨nB, 1⟩], [⟨nA, 0⟩], [⟨0, nB, noname, 1⟩], false, -1, -1, 6⟩
def behind (b : List Nat) (s' : Nat) (L : List En) : Ds := ⟨10000, [⟨b, s'⟩, ⟨[], 0⟩], L, L, [], false, -1, -1, 6⟩
theorem crashed (s m : List Nat) (keep : List Int) : ∃ b s' L, crash (pre s m) keep = behind b s' L ∧ s.length ≤ b.length ∧ b.length ≤ s.length + m.length ∧ b.take s.length = s ∧ (L = [⟨nA, 0⟩] ∨ L = [⟨nA, 0⟩, ⟨nB, 1⟩]) := by
  have hs : (⟨s ++ m, s.length⟩ : Fl).s ≤ (⟨s ++ m, s.length⟩ : Fl).b.length := by show s.length ≤ (s ++ m).length; rw [List.length_append]; omega
  have htk : (s ++ m).take s.length = s := by simp
  have hlen : (s ++ m).length = s.length + m.length := List.length_append
  have hone : ∀ L, (L = [⟨nA, 0⟩] ∨ L = [⟨nA, 0⟩, ⟨nB, 1⟩]) → ∃ b s', crashF keep 1 L [⟨s ++ m, s.length⟩, ⟨[], 0⟩] = [⟨b, s'⟩, ⟨[], 0⟩] ∧ s.length ≤ b.length ∧ b.length ≤ s.length + m.length ∧ b.take s.length = s := by
    intro L hL
    have hl := keptL_len (x := ⟨s ++ m, s.length⟩) (k := pick keep 1) (g := odd (pick keep 2)) hs
    have hn := keptN_le (x := ⟨s ++ m, s.length⟩) (k := pick keep 1) hs
    have ht := keptL_take (x := ⟨s ++ m, s.length⟩) (k := pick keep 1) (g := odd (pick keep 2)) hs
    have hn1 : s.length ≤ keptN ⟨s ++ m, s.length⟩ (pick keep 1) := hn.1
    have hn2 : keptN ⟨s ++ m, s.length⟩ (pick keep 1) ≤ (s ++ m).length := hn.2
    by_cases hlt : s.length < (s ++ m).length
    · refine ⟨keptL ⟨s ++ m, s.length⟩ (pick keep 1) (odd (pick keep 2)), (keptL ⟨s ++ m, s.length⟩ (pick keep 1) (odd (pick keep 2))).length, ?_, by rw [hl]; exact hn1, by rw [hl]; omega, ht.trans htk⟩
      rcases hL with rfl | rfl
      · have e : crashF keep 1 [⟨nA, 0⟩] [⟨s ++ m, s.length⟩, ⟨[], 0⟩] = if s.length < (s ++ m).length then [⟨keptL ⟨s ++ m, s.length⟩ (pick keep 1) (odd (pick keep 2)), (keptL ⟨s ++ m, s.length⟩ (pick keep 1) (odd (pick keep 2))).length⟩, ⟨[], 0⟩] else [⟨s ++ m, s.length⟩, ⟨[], 0⟩] := rfl
        rw [e, if_pos hlt]
      · have e : crashF keep 1 [⟨nA, 0⟩, ⟨nB, 1⟩] [⟨s ++ m, s.length⟩, ⟨[], 0⟩] = if s.length < (s ++ m).length then [⟨keptL ⟨s ++ m, s.length⟩ (pick keep 1) (odd (pick keep 2)), (keptL ⟨s ++ m, s.length⟩ (pick keep 1) (odd (pick keep 2))).length⟩, ⟨[], 0⟩] else [⟨s ++ m, s.length⟩, ⟨[], 0⟩] := rfl
        rw [e, if_pos hlt]
    · refine ⟨s ++ m, s.length, ?_, by omega, by omega, htk⟩
      rcases hL with rfl | rfl
      · have e : crashF keep 1 [⟨nA, 0⟩] [⟨s ++ m, s.length⟩, ⟨[], 0⟩] = if s.length < (s ++ m).length then [⟨keptL ⟨s ++ m, s.length⟩ (pick keep 1) (odd (pick keep 2)), (keptL ⟨s ++ m, s.length⟩ (pick keep 1) (odd (pick keep 2))).length⟩, ⟨[], 0⟩] else [⟨s ++ m, s.length⟩, ⟨[], 0⟩] := rfl
        rw [e, if_neg hlt]
      · have e : crashF keep 1 [⟨nA, 0⟩, ⟨nB, 1⟩] [⟨s ++ m, s.length⟩, ⟨[], 0⟩] = if s.length < (s ++ m).length then [⟨keptL ⟨s ++ m, s.length⟩ (pick keep 1) (odd (pick keep 2)), (keptL ⟨s ++ m, s.length⟩ (pick keep 1) (odd (pick keep 2))).length⟩, ⟨[], 0⟩] else [⟨s ++ m, s.length⟩, ⟨[], 0⟩] := rfl
        rw [e, if_neg hlt]
  have hL : crashA keep 0 [⟨0, nB, noname, 1⟩] [⟨nA, 0⟩] = if odd (pick keep 0) = true then [⟨nA, 0⟩, ⟨nB, 1⟩] else [⟨nA, 0⟩] := rfl
  obtain ⟨L, hLe⟩ : ∃ L, L = crashA keep 0 [⟨0, nB, noname, 1⟩] [⟨nA, 0⟩] := ⟨_, rfl⟩
  have hLc : L = [⟨nA, 0⟩] ∨ L = [⟨nA, 0⟩, ⟨nB, 1⟩] := by
    rw [hLe, hL]
    split
    · exact .inr rfl
    · exact .inl rfl
  obtain ⟨b, s', hc, h1, h2, h3⟩ := hone L hLc
  refine ⟨b, s', L, ?_, h1, h2, h3, hLc⟩
  have e : crash (pre s m) keep = ⟨10000, crashF keep 1 (crashA keep 0 [⟨0, nB, noname, 1⟩] [⟨nA, 0⟩]) [⟨s ++ m, s.length⟩, ⟨[], 0⟩], crashA keep 0 [⟨0, nB, noname, 1⟩] [⟨nA, 0⟩], crashA keep 0 [⟨0, nB, noname, 1⟩] [⟨nA, 0⟩], [], false, -1, -1, 6⟩ := rfl
  rw [e, ← hLe, hc]
  rfl
theorem rd_take {w : World} {B n k : Nat} {A : Option Addr} {l : List Nat} (h : Rd w B A n (l.map bv)) (hk : k ≤ n) : Rd w B A k ((l.take k).map bv) := by
  have hl : l.length = n := by have := h.1; simpa using this
  refine ⟨by rw [List.length_map, List.length_take]; omega, fun hn => ?_⟩
  obtain ⟨b, off, e, hb, hc⟩ := h.2 (by omega)
  refine ⟨b, off, e, hb, fun j u hj => hc j u ?_⟩
  rw [List.getElem?_map] at hj ⊢
  have hjk : j < k := by
    rcases Nat.lt_or_ge j k with h | h
    · exact h
    · rw [List.getElem?_eq_none (by rw [List.length_take]; omega)] at hj; cases hj
  rwa [List.getElem?_take_of_lt hjk] at hj
set_option maxRecDepth 100000 in
set_option maxHeartbeats 4000000 in
theorem walk (w : World) (A0 : Option Addr) (n0 c0 : Nat) (m0 : List Nat) (rd0 : Rd w w.heap.size A0 n0 (m0.map bv)) (lt0 : ∀ x ∈ m0, x < 256) (A1 : Option Addr) (n1 c1 : Nat) (m1 : List Nat) (rd1 : Rd w w.heap.size A1 n1 (m1.map bv)) (lt1 : ∀ x ∈ m1, x < 256) (A2 : Option Addr) (n2 c2 : Nat) (l2 : List Int) (rd2 : Rd w w.heap.size A2 n2 (l2.map (Value.int .i64))) (nc2 : n2 ≤ c2) (cm2 : c2 ≤ maxLen) : Calls Try.prog 5 #[.slice A0 n0 c0, .slice A1 n1 c1, .slice A2 n2 c2] w fun e w' => e = .returned (.bool true) ∧ Below w.heap.size w w' := by
  have hal := alive11 w
  have l0 : m0.length = n0 := by have := rd0.1; simpa using this
  have l1 : m1.length = n1 := by have := rd1.1; simpa using this
  by_cases o0 : 3000 < n0
  · have p0 : decide (3000 < n0) = true := decide_eq_true o0
    have P0 : decide ((3000 : Int) < (n0 : Int)) = true := decide_eq_true (by omega)
    go_enter Try.func5, Try.ntmps5
    go_wp2_with fail
    refine hal.mono ?_
    rintro e w1 ⟨rfl, hb1⟩
    go_wp2_with fail
    go_ret
    exact ⟨rfl, hb1⟩
  have p0 : decide (3000 < n0) = false := decide_eq_false o0
  have P0 : decide ((3000 : Int) < (n0 : Int)) = false := decide_eq_false (by omega)
  by_cases o1 : 3000 < n1
  · have p1 : decide (3000 < n1) = true := decide_eq_true o1
    have P1 : decide ((3000 : Int) < (n1 : Int)) = true := decide_eq_true (by omega)
    go_enter Try.func5, Try.ntmps5
    go_wp2_with fail
    refine hal.mono ?_
    rintro e w1 ⟨rfl, hb1⟩
    go_wp2_with fail
    go_ret
    exact ⟨rfl, hb1⟩
  have p1 : decide (3000 < n1) = false := decide_eq_false o1
  have P1 : decide ((3000 : Int) < (n1 : Int)) = false := decide_eq_false (by omega)
  by_cases o2 : 100 < n2
  · have p2 : decide (100 < n2) = true := decide_eq_true o2
    have P2 : decide ((100 : Int) < (n2 : Int)) = true := decide_eq_true (by omega)
    go_enter Try.func5, Try.ntmps5
    go_wp2_with fail
    refine hal.mono ?_
    rintro e w1 ⟨rfl, hb1⟩
    go_wp2_with fail
    go_ret
    exact ⟨rfl, hb1⟩
  have p2 : decide (100 < n2) = false := decide_eq_false o2
  have P2 : decide ((100 : Int) < (n2 : Int)) = false := decide_eq_false (by omega)
  have HR := Lib.hid (And.intro rd0 (And.intro rd1 (And.intro rd2 (And.intro l0 (And.intro l1 (And.intro o0 o1))))))
  have hcp := crashed m0 m1 l2
  clear rd0 rd1 rd2 l0 l1 o0 o1 o2
  go_enter Try.func5, Try.ntmps5
  go_wp2_with fail
  refine hal.mono ?_
  clear hal
  rintro e w1 ⟨rfl, hb1⟩
  go_wp2_with fail
  refine (At.new 10000 hb1).mono ?_
  clear hb1
  rintro e w2 ⟨D, rfl, h2⟩
  have c1' := h2.mkA (by decide)
  go_wp2_with fail
  refine c1'.mono ?_
  clear c1' h2
  rintro e w3 ⟨rfl, h3⟩
  have c1' := h3.appA A0 c0 m0 n0 HR.out.2.2.2.1 ((HR.out.1.below h3.1).more h3.1.size) lt0 (by have := HR.out.2.2.2.2.2.1; show 0 + n0 ≤ _; omega) (by have := HR.out.2.2.2.2.2.1; show ((0 + n0 : Nat) : Int) ≤ _; omega) (by decide) (by decide) (by decide)
  clear h3
  go_wp2_with fail
  refine c1'.mono ?_
  clear c1'
  rintro e w4 ⟨rfl, h4⟩
  have c1' := h4.synA (by have := HR.out.2.2.2; show m0.length ≤ _; omega) (by decide) (by decide) (by decide)
  clear h4
  go_wp2_with fail
  refine c1'.mono ?_
  clear c1'
  rintro e w5 ⟨rfl, h5⟩
  have h5' : At w w5 D (one 10000 m0 m0.length [] acA false (-1) (-1) 3) := h5
  have c1' : Calls Try.prog 22 #[.pointer (some ⟨D, 0, none⟩)] w5 (fun e w' => e = .returned (.int .i64 0) ∧ At w w' D (one 10000 m0 m0.length [⟨nA, 0⟩] [] false (-1) (-1) 4)) := h5'.syncdir (by show (3 : Int) ≤ 1000000000; omega)
  clear h5 h5'
  go_wp2_with fail
  refine c1'.mono ?_
  clear c1'
  rintro e w6 ⟨rfl, h6⟩
  have c1' := h6.appA A1 c1 m1 n1 HR.out.2.2.2.2.1 ((HR.out.2.1.below h6.1).more h6.1.size) lt1 (by have := HR.out.2.2.2; omega) (by have := HR.out.2.2.2; omega) (by decide) (by decide) (by decide)
  clear h6
  go_wp2_with fail
  refine c1'.mono ?_
  clear c1'
  rintro e w7 ⟨rfl, h7⟩
  have h7' : At w w7 D (one 10000 (m0 ++ m1) m0.length [⟨nA, 0⟩] [] false (-1) (-1) 5) := h7
  have c1' : Calls Try.prog 13 #[.pointer (some ⟨D, 0, none⟩), .string ⟨#[98]⟩] w7 (fun e w' => e = .returned (.int .i64 0) ∧ At w w' D (pre m0 m1)) := h7'.create nB (by decide) (by show (5 : Int) ≤ 1000000000; omega) (by show (0 : Nat) ≤ 1000000; omega) (by show (1 : Nat) ≤ 1000000; omega)
  clear h7 h7'
  go_wp2_with fail
  refine c1'.mono ?_
  clear c1'
  rintro e w8 ⟨rfl, h8⟩
  have c1' := h8.crash A2 n2 c2 l2 (((HR.out.2.2.1.below h8.1)).ik h8.1.size) nc2 cm2 (by show (1 + 1 : Nat) ≤ 1000000; omega) (by
    intro z hz
    have hz' : z = ⟨m0 ++ m1, m0.length⟩ ∨ z = ⟨[], 0⟩ := by simpa [pre] using hz
    rcases hz' with rfl | rfl
    · show (m0 ++ m1).length ≤ _; rw [List.length_append]; have := HR.out.2.2.2; omega
    · show (0 : Nat) ≤ _; omega)
  obtain ⟨B, s', L, he, hb1, hb2, hb3, hL⟩ := hcp
  rw [he] at c1'
  have HB := Lib.hid (And.intro hb1 (And.intro hb2 hb3))
  clear h8 he hb1 hb2 hb3
  go_wp2_with fail
  refine c1'.mono ?_
  clear c1'
  rintro e w9 ⟨rfl, h9⟩
  have c1' := h9.read nA (by decide) (by
    intro z hz
    have hz' : z = ⟨B, s'⟩ ∨ z = ⟨[], 0⟩ := by simpa [behind] using hz
    rcases hz' with rfl | rfl
    · show B.length ≤ _; have := HR.out.2.2.2; have := HB.out.2.1; omega
    · show (0 : Nat) ≤ _; omega)
  have r1 : readE (behind B s' L) nA = 0 ∧ readB (behind B s' L) nA = B := by
    rcases hL with rfl | rfl <;> exact ⟨rfl, rfl⟩
  have HL := Lib.hid hL
  clear h9 hL
  unfold nA at c1'
  go_wp2_with fail
  refine c1'.mono ?_
  clear c1'
  rintro e w10 ⟨h10, v, rfl, hown, _⟩
  have e1 : readE (behind B s' L) ⟨#[97]⟩ = 0 := r1.1
  have e2 : readB (behind B s' L) ⟨#[97]⟩ = B := r1.2
  rw [e2] at hown
  rw [e1]
  clear e1 e2 r1
  obtain ⟨Ab, cb, rfl, hrb, hcb, hcm⟩ := Rd.of_own hown
  obtain ⟨hb10, φ, hd10, _⟩ := h10
  have c1' := list24 D _ φ w10 hd10 (by
    rcases HL.out with rfl | rfl
    · show (1 : Nat) ≤ 1000000; omega
    · show (2 : Nat) ≤ 1000000; omega)
  have HB10 := Lib.hid hrb
  clear hd10 hown hrb
  go_wp2_with fail
  refine c1'.mono ?_
  clear c1'
  rintro e w11 ⟨v2, rfl, hown, hbw⟩
  have W11 := Lib.hid hbw
  have hb11 := hb10.trans (hbw.mono hb10.size)
  have H11 := Lib.hid hb11
  clear hbw hb10
  have k1 : (convert 31 9 (.slice A0 n0 c0)).run Try.prog w11 = .ok (.string (strN m0)) w11 := conv_rd (HR.out.1.below hb11)
  have k2 : (convert 31 9 (.slice Ab n0 cb)).run Try.prog w11 = .ok (.string (strN m0)) w11 := by
    have h1 := rd_take (k := n0) HB10.out (by have := HR.out.2.2.2; have := HB.out; omega)
    have h3 : B.take n0 = m0 := by have := HB.out.2.2; rwa [HR.out.2.2.2.1] at this
    rw [h3] at h1
    exact conv_rd (h1.kp (Kp.none_of_below (S := fun _ => False) W11.out) (Nat.le_refl _) (fun _ _ h => h))
  have k1d : ∀ nq, (convert 31 9 (.slice A0 n0 c0)).run Try.prog (w11.drewN nq) = .ok (.string (strN m0)) (w11.drewN nq) := fun nq => conv_rd (Rd.kp (HR.out.1.below hb11) ((Kp.refl (fun _ => False) w11).drewN nq) hb11.size (fun _ _ h => h))
  have k2d : ∀ nq, (convert 31 9 (.slice Ab n0 cb)).run Try.prog (w11.drewN nq) = .ok (.string (strN m0)) (w11.drewN nq) := by
    intro nq
    have h1 := rd_take (k := n0) HB10.out (by have := HR.out.2.2.2; have := HB.out; omega)
    have h3 : B.take n0 = m0 := by have := HB.out.2.2; rwa [HR.out.2.2.2.1] at this
    rw [h3] at h1
    exact conv_rd (h1.kp ((Kp.none_of_below (S := fun _ => False) W11.out).drewN nq) (Nat.le_refl _) (fun _ _ h => h))
  have z0 : (0 : Int) ≤ (n0 : Int) := by omega
  have z1 : (n0 : Int) ≤ (cb : Int) := by have := HR.out.2.2.2; have := HB.out; omega
  have z1n : n0 ≤ cb := by omega
  have z2 : decide ((n0 : Int) ≤ (B.length : Int)) = true := decide_eq_true (by have := HR.out.2.2.2; have := HB.out; omega)
  have z2n : decide (n0 ≤ B.length) = true := decide_eq_true (by have := HR.out.2.2.2; have := HB.out; omega)
  have z3 : decide ((B.length : Int) ≤ (n0 : Int) + (n1 : Int)) = true := decide_eq_true (by have := HR.out.2.2.2; have := HB.out; omega)
  have z3n : decide (B.length ≤ n0 + n1) = true := decide_eq_true (by have := HR.out.2.2.2; have := HB.out; omega)
  have zw : IntKind.i64.wrap ((n0 : Int) + (n1 : Int)) = (n0 : Int) + (n1 : Int) := IntWalk.i64_in _ (by have := HR.out.2.2.2; omega)
  have zw2 : wrap64 ((n0 : Int) + (n1 : Int)) = (n0 : Int) + (n1 : Int) := IntWalk.wrap64_in _ (by have := HR.out.2.2.2; omega)
  have u1 : (((1 : Nat) : Int) == 1) = true := rfl
  have u2 : (((2 : Nat) : Int) == 1) = false := rfl
  have u3 : (((2 : Nat) : Int) == 2) = true := rfl
  have u4 : ((1 : Nat) : Int) = 1 := rfl
  have u5 : ((2 : Nat) : Int) = 2 := rfl
  rcases HL.out with rfl | rfl
  · have hl1 : listL (behind B s' [⟨nA, 0⟩]) = [⟨nA, 0⟩] := rfl
    rw [hl1] at hown
    have hown' : w11.ownsRow w10.heap.size 9 1 v2 1 [.string ⟨#[97]⟩] := hown
    obtain ⟨Al, cl, rfl⟩ := own_slice hown'
    clear hown hown' hl1 hb11
    go_wp2_with fail
    go_quiet ((go_at_call 17; exact Calls.quiet_of_same (num17 _ _)))
    go_wp2_with fail
    go_ret
    exact ⟨rfl, H11.out.trans (((Kp.refl (fun _ => False) w11).drewN nq).below H11.out.size (fun _ _ h => h))⟩
  · have hl1 : listL (behind B s' [⟨nA, 0⟩, ⟨nB, 1⟩]) = [⟨nA, 0⟩, ⟨nB, 1⟩] := rfl
    rw [hl1] at hown
    have hown' : w11.ownsRow w10.heap.size 9 1 v2 2 [.string ⟨#[97]⟩, .string ⟨#[98]⟩] := hown
    obtain ⟨Al, cl, rfl⟩ := own_slice hown'
    obtain ⟨r, rfl, _, _, hrc⟩ := row_at (j := 1) (u := .string ⟨#[98]⟩) hown' rfl
    have g1 : w11.cell? ⟨r, 1, none⟩ = some (.string ⟨#[98]⟩) := hrc w11 rfl
    have g1d : w11.drew.cell? ⟨r, 1, none⟩ = some (.string ⟨#[98]⟩) := hrc w11.drew rfl
    clear hown hown' hl1 hb11 hrc
    go_wp2_with fail
    go_quiet ((go_at_call 17; exact Calls.quiet_of_same (num17 _ _)))
    go_wp2_with fail
    go_ret
    exact ⟨rfl, H11.out.trans (((Kp.refl (fun _ => False) w11).drewN nq).below H11.out.size (fun _ _ h => h))⟩

set_option maxRecDepth 100000 in
theorem lifted (os : Os) (started : os.Started) (H : Type) (enc : TypeId × Value → H) :
    ReturnsInHanded {} Try.checked os 5 .any (Rows.diskSureSpec.pre6 enc Try.prog Try.f5 Rows.diskSureRow.domain false) (Rows.diskSureSpec.post enc Try.prog Try.f5 false true false false) := by
  refine returnsInHanded_of_change_sized (C := Try.checked) Try.own started (by kernel_rfl) Try.func5
    (ChangeSpec.witness6 (enc := enc) (C := Try.checked) false ⟨#[], #[.slice none 0 0, .slice none 0 0, .slice none 0 0], []⟩ 8 (by kernel_rfl) (by kernel_rfl) (by kernel_rfl) (by kernel_rfl)) ?_
  intro W base args ds gs before hval0 hW hcnd hwt0 _
  have hval : ∀ (j : Nat) t v, Try.f5.params[j]? = some t → args[j]? = some v → Value.okWide Try.prog W .any base t v := hval0
  have hW' := hW
  have hWl := hW
  obtain ⟨p, q, hA0, hV, rfl, _, _⟩ := hW
  have hA : DataW.TrodAll enc Try.prog W 0 (fun _ => true) true Try.f5.params.toList args.toList ds p := hA0
  have hlt : ∀ x ∈ p, x.block < W.heap.size := fun x hx => hWl.lt x (List.mem_append_left _ hx)
  rw [Try.params5] at hA hval
  obtain ⟨v0, vs0, d0, ds0, p0, q0, hargs, rfl, rfl, h0, r0⟩ := trodAll_cons hA
  obtain ⟨v1, vs1, d1, ds1, p1, q1, he1, rfl, rfl, h1, r1⟩ := trodAll_cons r0
  obtain ⟨v2, vs2, d2, ds2, p2, q2, he2, rfl, rfl, h2, r2⟩ := trodAll_cons r1
  obtain ⟨rfl, rfl, rfl⟩ := trodAll_nil r2
  subst he2
  subst he1
  obtain rfl : args = #[v0, v1, v2] := by cases args; simp_all
  obtain ⟨rfl, rfl⟩ := trodVars_none hV
  obtain ⟨A0, n0, c0, l0, rfl, rd0, nc0, cm0, wf0⟩ := open_rd Try.underlying31 Try.underlying5 Try.cells5 (hval 0 31 v0 rfl rfl) h0 (fun x hx => hlt x (by simp [hx]))
  obtain ⟨m0, hm0, lt0⟩ := bytes_nat wf0
  rw [hm0] at rd0
  obtain ⟨A1, n1, c1, l1, rfl, rd1, nc1, cm1, wf1⟩ := open_rd Try.underlying31 Try.underlying5 Try.cells5 (hval 1 31 v1 rfl rfl) h1 (fun x hx => hlt x (by simp [hx]))
  obtain ⟨m1, hm1, lt1⟩ := bytes_nat wf1
  rw [hm1] at rd1
  obtain ⟨A2, n2, c2, l2, rfl, rd2, nc2, cm2, wf2⟩ := open_rd Try.underlying37 Try.underlying3 Try.cells3 (hval 2 37 v2 rfl rfl) h2 (fun x hx => hlt x (by simp [hx]))
  refine (walk W A0 n0 c0 m0 rd0 lt0 A1 n1 c1 m1 rd1 lt1 A2 n2 c2 l2 rd2 nc2 cm2).mono fun e W' ⟨he, hb⟩ => ?_
  subst he
  exact ⟨_, rfl, law_post Try.laidOut (by kernel_rfl) rfl rfl Try.underlying4 hW' ⟨rfl, rfl, rfl⟩ hb⟩

theorem over : Rows.diskSureRow.holds Try.pinned (OpenSpec.ofChange Rows.diskSureSpec) :=
  OpenClaim.holds_of_wide 5 Try.f5 rfl rfl rfl rfl rfl rfl rfl ⟨rfl, rfl, rfl, rfl, rfl⟩ rfl rfl rfl rfl rfl (by kernel_rfl) Try.func5 (by kernel_rfl)
    (of_decide_eq_true (by kernel_rfl)) (by unfold Func.isWrapper; first | (rw [if_pos (by decide +kernel)]; kernel_rfl) | (rw [if_neg (by decide +kernel)]; exact ⟨rfl, rfl⟩))
    (fun os started H enc _ => lifted os started H enc)

/-- THE STATEMENT. -/
theorem proved : Rows.DiskSureSaid :=
  over
end Go.Proofs.Ytedjfbkfaioihaa.diskSure
