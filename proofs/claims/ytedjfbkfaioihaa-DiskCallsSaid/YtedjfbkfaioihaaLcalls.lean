/- Each call by its name is the one that Do tells. Without conditions. -/
import Derived.Test.YtedjfbkfaioihaaApart
import Derived.Test.YtedjfbkfaioihaaAlive
import Derived.Test.YtedjfbkfaioihaaOpnO
import Derived.Test.YtedjfbkfaioihaaRows
import Derived.Test.YtedjfbkfaioihaaChecked
namespace Go.Proofs.Ytedjfbkfaioihaa.diskCalls
open Go.ChangeShapes Go.WideShapes Go.ChangeAt Go.RowKit Go.Deep

/-- What the calls of one round want. -/
def FF (st : Ds) (n m : ByteArray) (b : List Nat) : Prop := st.steps ≤ 1000000000 ∧ st.acts.length ≤ 1000000 ∧ st.dir.length ≤ 1000000 ∧ usedL st.fs st.dir ≤ 1000000000 ∧ n.size ≤ 1000000000000000 ∧ m.size ≤ 1000000000000000 ∧ ∀ x ∈ st.fs, x.b.length + b.length ≤ 1000000000
theorem ff_of {st : Ds} {k : Nat} {n m : ByteArray} {b : List Nat} (h : Fit st k (2000 * k)) (hk : k ≤ 100) (hn : n.size ≤ 1000000000000000) (hm : m.size ≤ 1000000000000000) (hb : b.length ≤ 20000) : FF st n m b := by
  have h1 := h.steps
  have h2 := h.acts
  have h3 := h.dir
  have h4 := h.usedle
  have h5 : k * (2000 * k) ≤ 100 * (2000 * 100) := Nat.mul_le_mul hk (Nat.mul_le_mul_left _ hk)
  exact ⟨by omega, by omega, by omega, by omega, hn, hm, fun x hx => by have := h.fs x hx; omega⟩
theorem op_fit {st : Ds} {k : Nat} {kd : Int} {n m : ByteArray} {b : List Nat} (h : Fit st k (2000 * k)) (hb : b.length ≤ 2000) : Fit (opS st kd n m b) (k + 1) (2000 * (k + 1)) := by
  unfold opS
  split
  · exact (h.next _ n m b).mono (Nat.le_refl _) (by omega)
  · exact h.mono (by omega) (by omega)
set_option maxRecDepth 100000 in
set_option maxHeartbeats 4000000 in
theorem walk (A0 : Option Addr) (n0 c0 : Nat) (l : List Opv) (w : World) (h0 : Ov w w.heap.size A0 n0 l) : Calls Try.prog 9 #[.slice A0 n0 c0] w fun e w' => e = .returned (.bool true) ∧ Below w.heap.size w w' := by
  have hal := alive11 w
  by_cases b0 : 60 < n0
  · have d0 : decide (60 < n0) = true := decide_eq_true b0
    have d0' : decide (60 < ((n0 : Nat) : Int)) = true := decide_eq_true (by omega)
    go_enter Try.func9, Try.ntmps9
    go_wp2_with fail
    refine hal.mono ?_
    rintro e w1 ⟨rfl, hb1⟩
    go_wp2_with fail
    go_ret
    exact ⟨rfl, hb1⟩
  have d0 : decide (60 < n0) = false := decide_eq_false b0
  have d0' : decide (60 < ((n0 : Nat) : Int)) = false := decide_eq_false (by omega)
  have hn0 : n0 ≤ 60 := by omega
  have H0 := Lib.hid h0
  clear h0 b0
  go_enter Try.func9, Try.ntmps9
  go_wp2_with fail
  refine hal.mono ?_
  clear hal
  rintro e w1 ⟨rfl, hb1⟩
  go_wp2_with fail
  refine (At.new 5000 hb1).mono ?_
  clear hb1
  rintro e w2 ⟨Da, rfl, h2⟩
  have hc := Ap.new (q := 5000) h2
  clear h2
  go_wp2_with fail
  refine hc.mono ?_
  clear hc
  rintro e w3 ⟨Db, rfl, h3⟩
  have H3 := Lib.hid h3
  clear h3
  go_wp2_with fail
  go_loopw [6] (fun i wr => ∃ (k : Nat) (st : Ds), k ≤ n0 ∧ i = .int .i64 k ∧ Hid (Ap w wr Da Db st st (fun _ => False) ∧ Fit st k (2000 * k))) (fun i _ => n0 - (intOf i).toNat)
  case atStart => exact ⟨0, newD 5000, Nat.zero_le _, rfl, Lib.hid ⟨H3.out, fit_new 5000⟩⟩
  case round =>
    obtain ⟨k, st, hk, rfl, HR⟩ := hrel
    clear H3
    by_cases hlt : k < n0
    · have hfk := HR.out.1.1
      obtain ⟨b1, off, rfl, hb1lt, hcs⟩ := (H0.out.below hfk).2.2 (by omega)
      have hkl : k < l.length := by have := H0.out.1; omega
      obtain ⟨x, hx⟩ : ∃ x, l[k]? = some x := ⟨_, List.getElem?_eq_getElem hkl⟩
      obtain ⟨g0, g1, g2, g3⟩ := hcs k x hx
      have hok0 := H0.out.2.1 x (List.mem_of_getElem? hx)
      have hok := hok0.below hfk
      obtain ⟨kd, n, m, A, c, b⟩ := x
      simp only at g0 g1 g2 g3
      have HOK := Lib.hid hok
      have HOK0 := Lib.hid hok0
      have HB := Lib.hid hfk
      clear hx hcs hok hok0 hfk
      have z0 : (0 : Int) ≤ (k : Int) := by omega
      have z1 : (k : Int) < (n0 : Int) := by omega
      by_cases hbig : 2000 < b.length
      · have d1 : decide (2000 < b.length) = true := decide_eq_true hbig
        have d1' : decide (2000 < ((b.length : Nat) : Int)) = true := decide_eq_true (by omega)
        go_wp2_with fail
        go_ret
        exact ⟨rfl, HB.out.alloc HB.out.size _⟩
      have d1 : decide (2000 < b.length) = false := decide_eq_false hbig
      have d1' : decide (2000 < ((b.length : Nat) : Int)) = false := decide_eq_false (by omega)
      obtain ⟨W1, hW1⟩ : ∃ W1, W1 = wr.alloc (.cells #[.int .i64 kd, .string n, .string m, .slice A b.length c] 48) := ⟨_, rfl⟩
      have hsz : wr.heap.size < W1.heap.size := by rw [hW1]; simp
      have hbx : Below wr.heap.size wr W1 := by rw [hW1]; exact (Below.refl _ _).alloc (Nat.le_refl _) _
      have hS1 := HR.out.1.more (χ' := fun x => x = wr.heap.size) hbx (fun x hx => .inr ⟨by omega, by rw [hx]; exact hsz⟩)
      have hA1 : Arr W1 wr.heap.size 48 #[.int .i64 kd, .string n, .string m, .slice A b.length c] := by rw [hW1]; exact Arr.new wr 48 _
      have hF : FF st n m b := ff_of HR.out.2 (by omega) HOK.out.n HOK.out.m (by omega)
      have hfit : Fit (opS st kd n m b) (k + 1) (2000 * (k + 1)) := op_fit HR.out.2 (by omega)
      have hr1 : Rd W1 W1.heap.size A b.length (b.map bv) := (HOK.out.rd.below (HB.out.mono (Nat.le_refl _) |> fun _ => Below.mono hbx HB.out.size)).more (Nat.le_trans HB.out.size hbx.size)
      have hdo := hS1.call (f := 29) (args := #[.pointer (some ⟨Da, 0, none⟩), .agg #[.int .i64 kd, .string n, .string m, .slice A b.length c]]) (fun φ h => do29 Da n m A c b st φ W1 h kd hr1 HOK.out.lt (by omega) hF.2.2.2.2.1 hF.2.2.2.2.2.1 hF.1 hF.2.1 hF.2.2.1 hF.2.2.2.1 hF.2.2.2.2.2.2)
      have HX := Lib.hid (And.intro hA1 (And.intro hF (And.intro hfit hr1)))
      clear hS1 hA1 hbx hF hfit hr1
      go_wp2_with fail
      rw [← hW1]
      refine hdo.mono ?_
      clear hdo
      rintro e w2 ⟨rfl, hS2, hk2⟩
      have hA2 := HX.out.1.kp hk2 (fun h => h rfl)
      have hr2 : Rd w2 w2.heap.size A b.length (b.map bv) := (HOK0.out.rd.below hS2.1).more hS2.1.size
      have q0 : w2.cell? ⟨wr.heap.size, 0, none⟩ = some (.int .i64 kd) := hA2.at_ rfl
      have q1 : w2.cell? ⟨wr.heap.size, 1, none⟩ = some (.string n) := hA2.at_ rfl
      have q2 : w2.cell? ⟨wr.heap.size, 2, none⟩ = some (.string m) := hA2.at_ rfl
      have q3 : w2.cell? ⟨wr.heap.size, 3, none⟩ = some (.slice A b.length c) := hA2.at_ rfl
      have H2 := Lib.hid (And.intro hS2 hr2)
      have hF := HX.out.2.1
      have hblt := HOK.out.lt
      obtain ⟨st', hst'⟩ : ∃ s, s = opS st kd n m b := ⟨_, rfl⟩
      obtain ⟨x, hx⟩ : ∃ x, x = opE st kd n m b := ⟨_, rfl⟩
      rw [← hst'] at H2
      rw [← hx]
      have hfit : Hid (Fit st' (k + 1) (2000 * (k + 1))) := by rw [hst']; exact Lib.hid HX.out.2.2.1
      have HE := Lib.hid (And.intro hst' hx)
      clear hS2 hA2 hr2 hk2 HX HOK hst' hx g0 g1 g2 g3
      obtain ⟨bo, hbo⟩ : ∃ bo, bo = wr.heap.size := ⟨_, rfl⟩
      rw [← hbo] at q0 q1 q2 q3 H2
      rw [← hbo]
      clear hbo hsz hW1 W1 HB HR HOK0
      by_cases e0 : kd = 0
      · subst e0
        have hE : st' = nx st 0 n m b ∧ x = ans st 0 n m b := by
          have h1 := op_nat (st := st) (i := 0) (n := n) (m := m) (b := b) (by omega)
          exact ⟨HE.out.1.trans h1.2, HE.out.2.trans h1.1⟩
        have hc : Calls Try.prog 13 #[.pointer (some ⟨Db, 0, none⟩), .string n] w2 (fun e w' => e = .returned (.int .i64 x) ∧ Ap w w' Da Db st' st' (fun x => x = bo) ∧ Kp (fun x => ¬ x = bo) w2 w') := by
          have hr := H2.out.2
          have h1 := H2.out.1.callr (f := 13) (args := #[.pointer (some ⟨Db, 0, none⟩), .string n]) (x := ans st 0 n m b) (st' := nx st 0 n m b) (fun φ h => create13 Db n st φ _ h hF.2.2.2.2.1 hF.1 hF.2.1 hF.2.2.1)
          rw [← hE.1, ← hE.2] at h1
          exact h1
        clear hE H2 HE
        go_wp2_with fail
        refine hc.mono ?_
        clear hc
        rintro e w3 ⟨rfl, h3, _⟩
        have H3 := Lib.hid h3
        clear h3
        go_wp2_with fail
        refine (num17 _ _).mono ?_
        rintro e w9 ⟨rfl, hw9⟩
        rw [hw9]
        clear hw9 w9
        go_wp2_with fail
        refine (num17 _ _).mono ?_
        rintro e w9 ⟨rfl, hw9⟩
        rw [hw9]
        clear hw9 w9
        have hu1 : usedL st'.fs st'.dir ≤ 1000000000 := by
          have h4 := hfit.out.usedle
          have h5 : (k + 1) * (2000 * (k + 1)) ≤ 100 * (2000 * 100) := Nat.mul_le_mul (by omega) (Nat.mul_le_mul_left _ (by omega))
          omega
        have hc := H3.out.room hu1
        go_wp2_with fail
        refine hc.mono ?_
        clear hc
        rintro e w4 ⟨rfl, h4⟩
        have hc := h4.symm.room hu1
        clear h4 H3
        go_wp2_with fail
        refine hc.mono ?_
        clear hc
        rintro e w5 ⟨rfl, h5⟩
        have hc := h5.symm.steps
        have hc' := h5.steps
        have H5 : Hid (Ap w w5 Da Db st' st' (fun _ => False)) := Lib.hid (h5.symm.more (Below.refl _ _) fun _ h => h.elim)
        clear h5 hu1
        go_wp2_with fail
        refine hc.mono ?_
        clear hc
        rintro e w9 ⟨rfl, hw9⟩
        rw [hw9]
        clear hw9 w9
        go_wp2_with fail
        refine hc'.mono ?_
        clear hc'
        rintro e w9 ⟨rfl, hw9⟩
        rw [hw9]
        clear hw9 w9
        go_wp2_with fail
        go_roundw
        case rel => exact ⟨k + 1, st', by omega, by go_num, Lib.hid ⟨H5.out, hfit.out⟩⟩
        case measure => simp [intOf]; omega
      by_cases e1 : kd = 1
      · subst e1
        have hE : st' = nx st 1 n m b ∧ x = ans st 1 n m b := by
          have h1 := op_nat (st := st) (i := 1) (n := n) (m := m) (b := b) (by omega)
          exact ⟨HE.out.1.trans h1.2, HE.out.2.trans h1.1⟩
        have hc : Calls Try.prog 18 #[.pointer (some ⟨Db, 0, none⟩), .string n, .slice A b.length c] w2 (fun e w' => e = .returned (.int .i64 x) ∧ Ap w w' Da Db st' st' (fun x => x = bo) ∧ Kp (fun x => ¬ x = bo) w2 w') := by
          have hr := H2.out.2
          have h1 := H2.out.1.callr (f := 18) (args := #[.pointer (some ⟨Db, 0, none⟩), .string n, .slice A b.length c]) (x := ans st 1 n m b) (st' := nx st 1 n m b) (fun φ h => append18 Db n A c _ b st φ _ h hr (Nat.le_refl _) hblt (by omega) hF.2.2.2.2.1 hF.1 hF.2.2.2.1 hF.2.2.2.2.2.2)
          rw [← hE.1, ← hE.2] at h1
          exact h1
        clear hE H2 HE
        go_wp2_with fail
        refine hc.mono ?_
        clear hc
        rintro e w3 ⟨rfl, h3, _⟩
        have H3 := Lib.hid h3
        clear h3
        go_wp2_with fail
        refine (num17 _ _).mono ?_
        rintro e w9 ⟨rfl, hw9⟩
        rw [hw9]
        clear hw9 w9
        go_wp2_with fail
        refine (num17 _ _).mono ?_
        rintro e w9 ⟨rfl, hw9⟩
        rw [hw9]
        clear hw9 w9
        have hu1 : usedL st'.fs st'.dir ≤ 1000000000 := by
          have h4 := hfit.out.usedle
          have h5 : (k + 1) * (2000 * (k + 1)) ≤ 100 * (2000 * 100) := Nat.mul_le_mul (by omega) (Nat.mul_le_mul_left _ (by omega))
          omega
        have hc := H3.out.room hu1
        go_wp2_with fail
        refine hc.mono ?_
        clear hc
        rintro e w4 ⟨rfl, h4⟩
        have hc := h4.symm.room hu1
        clear h4 H3
        go_wp2_with fail
        refine hc.mono ?_
        clear hc
        rintro e w5 ⟨rfl, h5⟩
        have hc := h5.symm.steps
        have hc' := h5.steps
        have H5 : Hid (Ap w w5 Da Db st' st' (fun _ => False)) := Lib.hid (h5.symm.more (Below.refl _ _) fun _ h => h.elim)
        clear h5 hu1
        go_wp2_with fail
        refine hc.mono ?_
        clear hc
        rintro e w9 ⟨rfl, hw9⟩
        rw [hw9]
        clear hw9 w9
        go_wp2_with fail
        refine hc'.mono ?_
        clear hc'
        rintro e w9 ⟨rfl, hw9⟩
        rw [hw9]
        clear hw9 w9
        go_wp2_with fail
        go_roundw
        case rel => exact ⟨k + 1, st', by omega, by go_num, Lib.hid ⟨H5.out, hfit.out⟩⟩
        case measure => simp [intOf]; omega
      by_cases e2 : kd = 2
      · subst e2
        have hE : st' = nx st 2 n m b ∧ x = ans st 2 n m b := by
          have h1 := op_nat (st := st) (i := 2) (n := n) (m := m) (b := b) (by omega)
          exact ⟨HE.out.1.trans h1.2, HE.out.2.trans h1.1⟩
        have hc : Calls Try.prog 15 #[.pointer (some ⟨Db, 0, none⟩), .string n] w2 (fun e w' => e = .returned (.int .i64 x) ∧ Ap w w' Da Db st' st' (fun x => x = bo) ∧ Kp (fun x => ¬ x = bo) w2 w') := by
          have hr := H2.out.2
          have h1 := H2.out.1.callr (f := 15) (args := #[.pointer (some ⟨Db, 0, none⟩), .string n]) (x := ans st 2 n m b) (st' := nx st 2 n m b) (fun φ h => sync15 Db n st φ _ h hF.2.2.2.2.1 hF.1 (fun x hx => by have := hF.2.2.2.2.2.2 x hx; omega))
          rw [← hE.1, ← hE.2] at h1
          exact h1
        clear hE H2 HE
        go_wp2_with fail
        refine hc.mono ?_
        clear hc
        rintro e w3 ⟨rfl, h3, _⟩
        have H3 := Lib.hid h3
        clear h3
        go_wp2_with fail
        refine (num17 _ _).mono ?_
        rintro e w9 ⟨rfl, hw9⟩
        rw [hw9]
        clear hw9 w9
        go_wp2_with fail
        refine (num17 _ _).mono ?_
        rintro e w9 ⟨rfl, hw9⟩
        rw [hw9]
        clear hw9 w9
        have hu1 : usedL st'.fs st'.dir ≤ 1000000000 := by
          have h4 := hfit.out.usedle
          have h5 : (k + 1) * (2000 * (k + 1)) ≤ 100 * (2000 * 100) := Nat.mul_le_mul (by omega) (Nat.mul_le_mul_left _ (by omega))
          omega
        have hc := H3.out.room hu1
        go_wp2_with fail
        refine hc.mono ?_
        clear hc
        rintro e w4 ⟨rfl, h4⟩
        have hc := h4.symm.room hu1
        clear h4 H3
        go_wp2_with fail
        refine hc.mono ?_
        clear hc
        rintro e w5 ⟨rfl, h5⟩
        have hc := h5.symm.steps
        have hc' := h5.steps
        have H5 : Hid (Ap w w5 Da Db st' st' (fun _ => False)) := Lib.hid (h5.symm.more (Below.refl _ _) fun _ h => h.elim)
        clear h5 hu1
        go_wp2_with fail
        refine hc.mono ?_
        clear hc
        rintro e w9 ⟨rfl, hw9⟩
        rw [hw9]
        clear hw9 w9
        go_wp2_with fail
        refine hc'.mono ?_
        clear hc'
        rintro e w9 ⟨rfl, hw9⟩
        rw [hw9]
        clear hw9 w9
        go_wp2_with fail
        go_roundw
        case rel => exact ⟨k + 1, st', by omega, by go_num, Lib.hid ⟨H5.out, hfit.out⟩⟩
        case measure => simp [intOf]; omega
      by_cases e3 : kd = 3
      · subst e3
        have hE : st' = nx st 3 n m b ∧ x = ans st 3 n m b := by
          have h1 := op_nat (st := st) (i := 3) (n := n) (m := m) (b := b) (by omega)
          exact ⟨HE.out.1.trans h1.2, HE.out.2.trans h1.1⟩
        have hc : Calls Try.prog 28 #[.pointer (some ⟨Db, 0, none⟩), .string n, .string m] w2 (fun e w' => e = .returned (.int .i64 x) ∧ Ap w w' Da Db st' st' (fun x => x = bo) ∧ Kp (fun x => ¬ x = bo) w2 w') := by
          have hr := H2.out.2
          have h1 := H2.out.1.callr (f := 28) (args := #[.pointer (some ⟨Db, 0, none⟩), .string n, .string m]) (x := ans st 3 n m b) (st' := nx st 3 n m b) (fun φ h => rename28 Db n m st φ _ h hF.2.2.2.2.1 hF.2.2.2.2.2.1 hF.1 hF.2.1 hF.2.2.1)
          rw [← hE.1, ← hE.2] at h1
          exact h1
        clear hE H2 HE
        go_wp2_with fail
        refine hc.mono ?_
        clear hc
        rintro e w3 ⟨rfl, h3, _⟩
        have H3 := Lib.hid h3
        clear h3
        go_wp2_with fail
        refine (num17 _ _).mono ?_
        rintro e w9 ⟨rfl, hw9⟩
        rw [hw9]
        clear hw9 w9
        go_wp2_with fail
        refine (num17 _ _).mono ?_
        rintro e w9 ⟨rfl, hw9⟩
        rw [hw9]
        clear hw9 w9
        have hu1 : usedL st'.fs st'.dir ≤ 1000000000 := by
          have h4 := hfit.out.usedle
          have h5 : (k + 1) * (2000 * (k + 1)) ≤ 100 * (2000 * 100) := Nat.mul_le_mul (by omega) (Nat.mul_le_mul_left _ (by omega))
          omega
        have hc := H3.out.room hu1
        go_wp2_with fail
        refine hc.mono ?_
        clear hc
        rintro e w4 ⟨rfl, h4⟩
        have hc := h4.symm.room hu1
        clear h4 H3
        go_wp2_with fail
        refine hc.mono ?_
        clear hc
        rintro e w5 ⟨rfl, h5⟩
        have hc := h5.symm.steps
        have hc' := h5.steps
        have H5 : Hid (Ap w w5 Da Db st' st' (fun _ => False)) := Lib.hid (h5.symm.more (Below.refl _ _) fun _ h => h.elim)
        clear h5 hu1
        go_wp2_with fail
        refine hc.mono ?_
        clear hc
        rintro e w9 ⟨rfl, hw9⟩
        rw [hw9]
        clear hw9 w9
        go_wp2_with fail
        refine hc'.mono ?_
        clear hc'
        rintro e w9 ⟨rfl, hw9⟩
        rw [hw9]
        clear hw9 w9
        go_wp2_with fail
        go_roundw
        case rel => exact ⟨k + 1, st', by omega, by go_num, Lib.hid ⟨H5.out, hfit.out⟩⟩
        case measure => simp [intOf]; omega
      by_cases e4 : kd = 4
      · subst e4
        have hE : st' = nx st 4 n m b ∧ x = ans st 4 n m b := by
          have h1 := op_nat (st := st) (i := 4) (n := n) (m := m) (b := b) (by omega)
          exact ⟨HE.out.1.trans h1.2, HE.out.2.trans h1.1⟩
        have hc : Calls Try.prog 21 #[.pointer (some ⟨Db, 0, none⟩), .string n] w2 (fun e w' => e = .returned (.int .i64 x) ∧ Ap w w' Da Db st' st' (fun x => x = bo) ∧ Kp (fun x => ¬ x = bo) w2 w') := by
          have hr := H2.out.2
          have h1 := H2.out.1.callr (f := 21) (args := #[.pointer (some ⟨Db, 0, none⟩), .string n]) (x := ans st 4 n m b) (st' := nx st 4 n m b) (fun φ h => remove21 Db n st φ _ h hF.2.2.2.2.1 hF.1 hF.2.1 hF.2.2.1)
          rw [← hE.1, ← hE.2] at h1
          exact h1
        clear hE H2 HE
        go_wp2_with fail
        refine hc.mono ?_
        clear hc
        rintro e w3 ⟨rfl, h3, _⟩
        have H3 := Lib.hid h3
        clear h3
        go_wp2_with fail
        refine (num17 _ _).mono ?_
        rintro e w9 ⟨rfl, hw9⟩
        rw [hw9]
        clear hw9 w9
        go_wp2_with fail
        refine (num17 _ _).mono ?_
        rintro e w9 ⟨rfl, hw9⟩
        rw [hw9]
        clear hw9 w9
        have hu1 : usedL st'.fs st'.dir ≤ 1000000000 := by
          have h4 := hfit.out.usedle
          have h5 : (k + 1) * (2000 * (k + 1)) ≤ 100 * (2000 * 100) := Nat.mul_le_mul (by omega) (Nat.mul_le_mul_left _ (by omega))
          omega
        have hc := H3.out.room hu1
        go_wp2_with fail
        refine hc.mono ?_
        clear hc
        rintro e w4 ⟨rfl, h4⟩
        have hc := h4.symm.room hu1
        clear h4 H3
        go_wp2_with fail
        refine hc.mono ?_
        clear hc
        rintro e w5 ⟨rfl, h5⟩
        have hc := h5.symm.steps
        have hc' := h5.steps
        have H5 : Hid (Ap w w5 Da Db st' st' (fun _ => False)) := Lib.hid (h5.symm.more (Below.refl _ _) fun _ h => h.elim)
        clear h5 hu1
        go_wp2_with fail
        refine hc.mono ?_
        clear hc
        rintro e w9 ⟨rfl, hw9⟩
        rw [hw9]
        clear hw9 w9
        go_wp2_with fail
        refine hc'.mono ?_
        clear hc'
        rintro e w9 ⟨rfl, hw9⟩
        rw [hw9]
        clear hw9 w9
        go_wp2_with fail
        go_roundw
        case rel => exact ⟨k + 1, st', by omega, by go_num, Lib.hid ⟨H5.out, hfit.out⟩⟩
        case measure => simp [intOf]; omega
      by_cases e5 : kd = 5
      · subst e5
        have hE : st' = nx st 5 n m b ∧ x = ans st 5 n m b := by
          have h1 := op_nat (st := st) (i := 5) (n := n) (m := m) (b := b) (by omega)
          exact ⟨HE.out.1.trans h1.2, HE.out.2.trans h1.1⟩
        have hc : Calls Try.prog 22 #[.pointer (some ⟨Db, 0, none⟩)] w2 (fun e w' => e = .returned (.int .i64 x) ∧ Ap w w' Da Db st' st' (fun x => x = bo) ∧ Kp (fun x => ¬ x = bo) w2 w') := by
          have hr := H2.out.2
          have h1 := H2.out.1.callr (f := 22) (args := #[.pointer (some ⟨Db, 0, none⟩)]) (x := ans st 5 n m b) (st' := nx st 5 n m b) (fun φ h => sdir22 Db st φ _ h hF.1)
          rw [← hE.1, ← hE.2] at h1
          exact h1
        clear hE H2 HE
        go_wp2_with fail
        refine hc.mono ?_
        clear hc
        rintro e w3 ⟨rfl, h3, _⟩
        have H3 := Lib.hid h3
        clear h3
        go_wp2_with fail
        refine (num17 _ _).mono ?_
        rintro e w9 ⟨rfl, hw9⟩
        rw [hw9]
        clear hw9 w9
        go_wp2_with fail
        refine (num17 _ _).mono ?_
        rintro e w9 ⟨rfl, hw9⟩
        rw [hw9]
        clear hw9 w9
        have hu1 : usedL st'.fs st'.dir ≤ 1000000000 := by
          have h4 := hfit.out.usedle
          have h5 : (k + 1) * (2000 * (k + 1)) ≤ 100 * (2000 * 100) := Nat.mul_le_mul (by omega) (Nat.mul_le_mul_left _ (by omega))
          omega
        have hc := H3.out.room hu1
        go_wp2_with fail
        refine hc.mono ?_
        clear hc
        rintro e w4 ⟨rfl, h4⟩
        have hc := h4.symm.room hu1
        clear h4 H3
        go_wp2_with fail
        refine hc.mono ?_
        clear hc
        rintro e w5 ⟨rfl, h5⟩
        have hc := h5.symm.steps
        have hc' := h5.steps
        have H5 : Hid (Ap w w5 Da Db st' st' (fun _ => False)) := Lib.hid (h5.symm.more (Below.refl _ _) fun _ h => h.elim)
        clear h5 hu1
        go_wp2_with fail
        refine hc.mono ?_
        clear hc
        rintro e w9 ⟨rfl, hw9⟩
        rw [hw9]
        clear hw9 w9
        go_wp2_with fail
        refine hc'.mono ?_
        clear hc'
        rintro e w9 ⟨rfl, hw9⟩
        rw [hw9]
        clear hw9 w9
        go_wp2_with fail
        go_roundw
        case rel => exact ⟨k + 1, st', by omega, by go_num, Lib.hid ⟨H5.out, hfit.out⟩⟩
        case measure => simp [intOf]; omega
      have hE : st' = st ∧ x = 1 := by
        have h1 := op_bad (st := st) (k := kd) (n := n) (m := m) (b := b) (by omega)
        exact ⟨HE.out.1.trans h1.2, HE.out.2.trans h1.1⟩
      obtain ⟨rfl, rfl⟩ := hE
      have i0 : (kd == 0) = false := by rw [beq_eq_false_iff_ne]; exact e0
      have i1 : (kd == 1) = false := by rw [beq_eq_false_iff_ne]; exact e1
      have i2 : (kd == 2) = false := by rw [beq_eq_false_iff_ne]; exact e2
      have i3 : (kd == 3) = false := by rw [beq_eq_false_iff_ne]; exact e3
      have i4 : (kd == 4) = false := by rw [beq_eq_false_iff_ne]; exact e4
      have i5 : (kd == 5) = false := by rw [beq_eq_false_iff_ne]; exact e5
      have H3 : Hid (Ap w w2 Da Db st' st' (fun x => x = bo)) := Lib.hid H2.out.1
      clear H2 HE e0 e1 e2 e3 e4 e5 hF
      go_wp2_with fail
      refine (num17 _ _).mono ?_
      rintro e w9 ⟨rfl, hw9⟩
      rw [hw9]
      clear hw9 w9
      go_wp2_with fail
      refine (num17 _ _).mono ?_
      rintro e w9 ⟨rfl, hw9⟩
      rw [hw9]
      clear hw9 w9
      have hu1 : usedL st'.fs st'.dir ≤ 1000000000 := by
        have h4 := hfit.out.usedle
        have h5 : (k + 1) * (2000 * (k + 1)) ≤ 100 * (2000 * 100) := Nat.mul_le_mul (by omega) (Nat.mul_le_mul_left _ (by omega))
        omega
      have hc := H3.out.room hu1
      go_wp2_with fail
      refine hc.mono ?_
      clear hc
      rintro e w4 ⟨rfl, h4⟩
      have hc := h4.symm.room hu1
      clear h4 H3
      go_wp2_with fail
      refine hc.mono ?_
      clear hc
      rintro e w5 ⟨rfl, h5⟩
      have hc := h5.symm.steps
      have hc' := h5.steps
      have H5 : Hid (Ap w w5 Da Db st' st' (fun _ => False)) := Lib.hid (h5.symm.more (Below.refl _ _) fun _ h => h.elim)
      clear h5 hu1
      go_wp2_with fail
      refine hc.mono ?_
      clear hc
      rintro e w9 ⟨rfl, hw9⟩
      rw [hw9]
      clear hw9 w9
      go_wp2_with fail
      refine hc'.mono ?_
      clear hc'
      rintro e w9 ⟨rfl, hw9⟩
      rw [hw9]
      clear hw9 w9
      go_wp2_with fail
      go_roundw
      case rel => exact ⟨k + 1, st', by omega, by go_num, Lib.hid ⟨H5.out, hfit.out⟩⟩
      case measure => simp [intOf]; omega
    · obtain rfl : k = n0 := by omega
      have HB := Lib.hid HR.out.1.1
      clear HR
      go_wp2_with fail
      go_ret
      exact ⟨rfl, HB.out⟩

set_option maxRecDepth 100000 in
theorem lifted (os : Os) (started : os.Started) (H : Type) (enc : TypeId × Value → H) :
    ReturnsInHanded {} Try.checked os 9 .any (Rows.diskCallsSpec.pre6 enc Try.prog Try.f9 Rows.diskCallsRow.domain false) (Rows.diskCallsSpec.post enc Try.prog Try.f9 false true false false) := by
  refine returnsInHanded_of_change_sized (C := Try.checked) Try.own started (by kernel_rfl) Try.func9
    (ChangeSpec.witness6 (enc := enc) (C := Try.checked) false ⟨#[], #[.slice none 0 0], []⟩ 8 (by kernel_rfl) (by kernel_rfl) (by kernel_rfl) (by kernel_rfl)) ?_
  intro W base args ds gs before hval0 hW hcnd hwt0 _
  have hval : ∀ (j : Nat) t v, Try.f9.params[j]? = some t → args[j]? = some v → Value.okWide Try.prog W .any base t v := hval0
  have hW' := hW
  have hWl := hW
  obtain ⟨p, q, hA0, hV, rfl, _, _⟩ := hW
  have hA : DataW.TrodAll enc Try.prog W 0 (fun _ => true) true Try.f9.params.toList args.toList ds p := hA0
  have hlt : ∀ x ∈ p, x.block < W.heap.size := fun x hx => hWl.lt x (List.mem_append_left _ hx)
  have hwt : ∀ n ∈ DataW.weightsEach Try.prog (Try.f9.params.toList ++ Rows.diskCallsSpec.plain.varTypes Try.prog) (ds ++ gs), n ≤ reachBytes := fun n hn => by
    have := List.all_eq_true.1 hwt0 n hn
    simpa using this
  rw [Try.params9] at hA hval hwt
  obtain ⟨v0, vs0, d0, ds0, p0, q0, hargs, rfl, rfl, h0, r0⟩ := trodAll_cons hA
  obtain ⟨rfl, rfl, rfl⟩ := trodAll_nil r0
  obtain rfl : args = #[v0] := by cases args; simp_all
  obtain ⟨rfl, rfl⟩ := trodVars_none hV
  obtain ⟨A0, n0, c0, l0, rfl, rd0, nc0, cm0⟩ := open_ov Try.underlying46 (hval 0 46 v0 rfl rfl) h0 (fun x hx => hlt x (by simp [hx])) (fun n hn => hwt n (DataW.weights_mem_each (j := 0) rfl rfl n hn))
  refine (walk A0 n0 c0 l0 W rd0).mono fun e W' ⟨he, hb⟩ => ?_
  subst he
  exact ⟨_, rfl, law_post Try.laidOut (by kernel_rfl) rfl rfl Try.underlying4 hW' ⟨rfl, rfl, rfl⟩ hb⟩

theorem over : Rows.diskCallsRow.holds Try.pinned (OpenSpec.ofChange Rows.diskCallsSpec) :=
  OpenClaim.holds_of_wide 9 Try.f9 rfl rfl rfl rfl rfl rfl rfl ⟨rfl, rfl, rfl, rfl, rfl⟩ rfl rfl rfl rfl rfl (by kernel_rfl) Try.func9 (by kernel_rfl)
    (of_decide_eq_true (by kernel_rfl)) (by unfold Func.isWrapper; first | (rw [if_pos (by decide +kernel)]; kernel_rfl) | (rw [if_neg (by decide +kernel)]; exact ⟨rfl, rfl⟩))
    (fun os started H enc _ => lifted os started H enc)

/-- THE STATEMENT. -/
theorem proved : Rows.DiskCallsSaid :=
  over
end Go.Proofs.Ytedjfbkfaioihaa.diskCalls
