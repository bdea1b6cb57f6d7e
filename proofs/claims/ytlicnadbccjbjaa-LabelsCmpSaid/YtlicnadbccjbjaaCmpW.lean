/- What labels.Cmp and the reference's Cmp answer: how two lists of labels stand to one another. Conditions: at most 10^6 labels. -/
import Derived.Test.YtlicnadbccjbjaaOpenL
namespace Go.Proofs.Ytlicnadbccjbjaa
open Go.RowKit LB

theorem drop_cons {a : List Lab} {k : Nat} {x : Lab} (h : a[k]? = some x) : a.drop k = x :: a.drop (k + 1) := by
  obtain ⟨hk, he⟩ := List.getElem?_eq_some_iff.1 h
  rw [List.drop_eq_getElem_cons hk, he]
theorem cmpL_step {a b : List Lab} {k : Nat} {x y : Lab} (ha : a[k]? = some x) (hb : b[k]? = some y) : cmpL (a.drop k) (b.drop k) = if lc x y = 0 then cmpL (a.drop (k + 1)) (b.drop (k + 1)) else lc x y := by
  rw [drop_cons ha, drop_cons hb, cmpL]
theorem cmpL_end {a b : List Lab} {k : Nat} (h : k = min a.length b.length) : cmpL (a.drop k) (b.drop k) = Lib.compareInt (a.length : Int) (b.length : Int) := by
  rcases Nat.lt_trichotomy a.length b.length with h1 | h1 | h1
  · have e : a.drop k = [] := List.drop_eq_nil_of_le (by omega)
    have hb : b[k]? = some b[k] := List.getElem?_eq_getElem (by omega)
    rw [e, drop_cons hb, cmpL]
    unfold Lib.compareInt
    rw [if_pos (by omega)]
  · have e : a.drop k = [] := List.drop_eq_nil_of_le (by omega)
    have e2 : b.drop k = [] := List.drop_eq_nil_of_le (by omega)
    rw [e, e2, cmpL]
    unfold Lib.compareInt
    rw [if_neg (by omega), if_neg (by omega)]
  · have e : b.drop k = [] := List.drop_eq_nil_of_le (by omega)
    have ha : a[k]? = some a[k] := List.getElem?_eq_getElem (by omega)
    rw [e, drop_cons ha, cmpL]
    unfold Lib.compareInt
    rw [if_neg (by omega), if_pos (by omega)]
/-- The first of two that is not 0. -/
def orI (a b : Int) : Int := if a = 0 then b else a
theorem lc_or (x y : Lab) : orI (c3 x.1 y.1) (c3 x.2 y.2) = lc x y := rfl
theorem c3_range (p q : ByteArray) : -1 ≤ c3 p q ∧ c3 p q ≤ 1 := by
  unfold c3
  split
  · simp
  · split <;> simp
theorem lc_range (x y : Lab) : -1 ≤ lc x y ∧ lc x y ≤ 1 := by
  unfold lc; split <;> exact c3_range _ _

set_option maxRecDepth 100000 in
set_option maxHeartbeats 1000000 in
theorem or27 (g c : Nat) (a b : Int) (w : World) (h0 : w.cell? ⟨g, 0, none⟩ = some (.int .i64 a)) (h1 : w.cell? ⟨g, 1, none⟩ = some (.int .i64 b)) :
    Calls Try.prog 27 #[.slice (some ⟨g, 0, none⟩) 2 c] w fun e w' => e = .returned (.int .i64 (orI a b)) ∧ w' = w := by
  by_cases ha : a = 0
  · subst ha
    have hr : orI 0 b = b := rfl
    have HR := Lib.hid hr
    clear hr
    by_cases hb : b = 0
    · subst hb
      go_enter Try.func27, Try.ntmps27
      go_wp2_with fail
      refine wp_loop_rounds 3 ?_
      repeat any_goals (rw [rounds_succ]; go_wp2)
      go_ret
      exact ⟨by rw [HR.out]; rfl, rfl⟩
    · have e1 : (b == 0) = false := by simpa using hb
      go_enter Try.func27, Try.ntmps27
      go_wp2_with fail
      refine wp_loop_rounds 3 ?_
      repeat any_goals (rw [rounds_succ]; go_wp2)
      go_ret
      exact ⟨by rw [HR.out]; rfl, rfl⟩
  · have hr : orI a b = a := if_neg ha
    have HR := Lib.hid hr
    have e1 : (a == 0) = false := by simpa using ha
    clear hr
    go_enter Try.func27, Try.ntmps27
    go_wp2_with fail
    refine wp_loop_rounds 1 ?_
    repeat any_goals (rw [rounds_succ]; go_wp2)
    go_ret
    exact ⟨by rw [HR.out]; rfl, rfl⟩

set_option maxRecDepth 100000 in
set_option maxHeartbeats 2000000 in
theorem cmp14 (A0 A1 : Option Addr) (n0 c0 B0 n1 c1 B1 : Nat) (l0 l1 : List Lab) (w : World) (h0 : Lv w B0 A0 n0 l0) (h1 : Lv w B1 A1 n1 l1) (hB0 : B0 ≤ w.heap.size) (hB1 : B1 ≤ w.heap.size) (hn0 : n0 ≤ 1000000) (hn1 : n1 ≤ 1000000) :
    Calls Try.prog 14 #[.slice A0 n0 c0, .slice A1 n1 c1] w fun e w' => e = .returned (.int .i64 (cmpL l0 l1)) ∧ Below w.heap.size w w' := by
  obtain ⟨N, hN⟩ : ∃ N, N = min n0 n1 := ⟨_, rfl⟩
  have HN := Lib.hid hN
  have hmin : min (n0 : Int) (n1 : Int) = (N : Int) := by omega
  clear hN
  go_enter Try.func14, Try.ntmps14
  go_wp2_with fail
  go_loopw [12] (fun i wr => ∃ k : Nat, k ≤ N ∧ i = .int .i64 k ∧ Hid (cmpL l0 l1 = cmpL (l0.drop k) (l1.drop k)) ∧ Below w.heap.size w wr) (fun i _ => N - (intOf i).toNat)
  case atStart => exact ⟨0, Nat.zero_le _, rfl, rfl, Below.refl _ _⟩
  case round =>
    obtain ⟨k, hk, rfl, hc, hb⟩ := hrel
    have hs := hb.size
    by_cases hlt : k < N
    · have hk0 : k < n0 := by have := HN.out; omega
      have hk1 : k < n1 := by have := HN.out; omega
      obtain ⟨x, hx⟩ : ∃ x, l0[k]? = some x := ⟨_, List.getElem?_eq_getElem (by rw [h0.1]; exact hk0)⟩
      obtain ⟨y, hy⟩ : ∃ y, l1[k]? = some y := ⟨_, List.getElem?_eq_getElem (by rw [h1.1]; exact hk1)⟩
      obtain ⟨b, off, rfl, hbb, hcc⟩ := (h0.below (hb.mono hB0)).at2 hk0
      obtain ⟨b', off', rfl, hbb', hcc'⟩ := (h1.below (hb.mono hB1)).at2 hk1
      obtain ⟨p0, p1⟩ := hcc k x hx
      obtain ⟨q0, q1⟩ := hcc' k y hy
      have hst := cmpL_step hx hy
      have hlr := lc_range x y
      have hlo := lc_or x y
      obtain ⟨xn, xv⟩ := x
      obtain ⟨yn, yv⟩ := y
      obtain ⟨C0, hC0⟩ : ∃ C, C = c3 xn yn := ⟨_, rfl⟩
      obtain ⟨C1, hC1⟩ : ∃ C, C = c3 xv yv := ⟨_, rfl⟩
      obtain ⟨Z, hZ⟩ : ∃ Z, Z = lc (xn, xv) (yn, yv) := ⟨_, rfl⟩
      have k0 := fun W => cmp26 xn yn W
      have k1 := fun W => cmp26 xv yv W
      simp only [← hC0, ← hC1, ← hZ] at hst hlr hlo k0 k1
      have HST := Lib.hid hst
      have HLO := Lib.hid hlo
      have K0 := Lib.hid k0
      have K1 := Lib.hid k1
      have ne0 : ∀ X : Obj, (wr.alloc X).cell? ⟨b, off + k * 2, none⟩ = some (.string xn) := fun X => (World.cell?_alloc_lt wr X ⟨b, off + k * 2, none⟩ (by simp; omega)).trans p0
      have ne1 : ∀ X : Obj, (wr.alloc X).cell? ⟨b, off + k * 2 + 1, none⟩ = some (.string xv) := fun X => (World.cell?_alloc_lt wr X ⟨b, off + k * 2 + 1, none⟩ (by simp; omega)).trans p1
      have ne2 : ∀ X : Obj, (wr.alloc X).cell? ⟨b', off' + k * 2, none⟩ = some (.string yn) := fun X => (World.cell?_alloc_lt wr X ⟨b', off' + k * 2, none⟩ (by simp; omega)).trans q0
      have ne3 : ∀ X : Obj, (wr.alloc X).cell? ⟨b', off' + k * 2 + 1, none⟩ = some (.string yv) := fun X => (World.cell?_alloc_lt wr X ⟨b', off' + k * 2 + 1, none⟩ (by simp; omega)).trans q1
      have z1 : (k : Int) < (n0 : Int) := by omega
      have z2 : (k : Int) < (n1 : Int) := by omega
      have z3 : (0 : Int) ≤ (k : Int) := by omega
      have hor := or27 wr.heap.size 2 C0 C1 (wr.drew.alloc (.cells #[.int .i64 C0, .int .i64 C1] 3)) ((Arr.new wr.drew 3 _).at_ rfl) ((Arr.new wr.drew 3 _).at_ rfl)
      rw [HLO.out] at hor
      have HOR := Lib.hid hor
      clear hst hlo k0 k1 hC0 hC1 hZ hx hy hcc hcc' hor h0 h1
      go_wp2_with fail
      go_region_held3 (fun w' => w'.cell? ⟨b, off + k * 2, none⟩ = some (.string xn) ∧ w'.cell? ⟨b, off + k * 2 + 1, none⟩ = some (.string xv) ∧ w'.cell? ⟨b', off' + k * 2, none⟩ = some (.string yn) ∧ w'.cell? ⟨b', off' + k * 2 + 1, none⟩ = some (.string yv)) (first | go_keep | exact ⟨ne0 _, ne1 _, ne2 _, ne3 _⟩) (first | (go_at_call_of 26 (Value.string xn); refine (K0.out _).mono ?_; rintro e w2 ⟨rfl, hw2⟩; rw [hw2]; clear hw2 w2) | (go_at_call_of 26 (Value.string xv); refine (K1.out _).mono ?_; rintro e w2 ⟨rfl, hw2⟩; rw [hw2]; clear hw2 w2) | (go_at_call 27; refine HOR.out.mono ?_; rintro e w2 ⟨rfl, hw2⟩; rw [hw2]; clear hw2 w2))
      by_cases hz0 : Z = 0
      · have e1 : (Z == 0) = true := by simp [hz0]
        have e2 : (Z != 0) = false := by simp [hz0]
        have HC : Hid (cmpL l0 l1 = cmpL (l0.drop (k + 1)) (l1.drop (k + 1))) := by
          show _ = _
          rw [hc.out, HST.out, if_pos hz0]
        clear hz0
        go_wp2_with fail
        go_roundw
        case rel => exact ⟨k + 1, by omega, by go_num, HC, hb.drew.alloc hs _⟩
        case measure => simp [intOf]; omega
      · have e1 : (Z == 0) = false := by simpa using hz0
        have e2 : (Z != 0) = true := by simpa using hz0
        have HC : Hid (cmpL l0 l1 = Z) := by
          show _ = _
          rw [hc.out, HST.out, if_neg hz0]
        clear hz0
        go_wp2_with fail
        go_ret
        exact ⟨by rw [HC.out]; rfl, hb.drew.alloc hs _⟩
    · obtain rfl : k = N := by omega
      have hfin := cmpL_end (a := l0) (b := l1) (k := k) (by rw [h0.1, h1.1]; exact HN.out)
      rw [h0.1, h1.1] at hfin
      have HC := Lib.hid (hc.out.trans hfin)
      clear hfin
      go_wp2_with (go_at_call 28; refine (Try.cmp_Compare_int _ _ _).mono ?_; rintro e w2 ⟨rfl, hw2⟩; rw [hw2]; clear hw2 w2)
      go_ret
      exact ⟨by rw [HC.out]; rfl, hb⟩

set_option maxRecDepth 100000 in
set_option maxHeartbeats 2000000 in
theorem cmp15 (A0 A1 : Option Addr) (n0 c0 B0 n1 c1 B1 : Nat) (l0 l1 : List Lab) (w : World) (h0 : Lv w B0 A0 n0 l0) (h1 : Lv w B1 A1 n1 l1) (hn0 : n0 ≤ 1000000) (hn1 : n1 ≤ 1000000) :
    Calls Try.prog 15 #[.slice A0 n0 c0, .slice A1 n1 c1] w fun e w' => e = .returned (.int .i64 (cmpL l0 l1)) ∧ ∃ j, w' = w.drewN j := by
  go_enter Try.func15, Try.ntmps15
  go_wp2_with fail
  go_loopw [5] (fun i wr => ∃ k : Nat, k ≤ n0 ∧ k ≤ n1 ∧ i = .int .i64 k ∧ Hid (cmpL l0 l1 = cmpL (l0.drop k) (l1.drop k)) ∧ ∃ j, wr = w.drewN j) (fun i _ => n0 - (intOf i).toNat)
  case atStart => exact ⟨0, Nat.zero_le _, Nat.zero_le _, rfl, rfl, 0, rfl⟩
  case round =>
    obtain ⟨k, hkn0, hkn1, rfl, hc, j, rfl⟩ := hrel
    obtain ⟨w2, hw2⟩ : ∃ w2, w2 = w.drewN j := ⟨_, rfl⟩
    have HW := Lib.hid hw2
    by_cases hk0 : k < n0
    · by_cases hk1 : k < n1
      · obtain ⟨x, hx⟩ : ∃ x, l0[k]? = some x := ⟨_, List.getElem?_eq_getElem (by rw [h0.1]; exact hk0)⟩
        obtain ⟨y, hy⟩ : ∃ y, l1[k]? = some y := ⟨_, List.getElem?_eq_getElem (by rw [h1.1]; exact hk1)⟩
        obtain ⟨b, off, rfl, hbb, hcc⟩ := (h0.drewN j).at2 hk0
        obtain ⟨b', off', rfl, hbb', hcc'⟩ := (h1.drewN j).at2 hk1
        obtain ⟨p0, p1⟩ := hcc k x hx
        obtain ⟨q0, q1⟩ := hcc' k y hy
        have hst := cmpL_step hx hy
        have hlr := lc_range x y
        have hlo := lc_or x y
        obtain ⟨xn, xv⟩ := x
        obtain ⟨yn, yv⟩ := y
        obtain ⟨C0, hC0⟩ : ∃ C, C = c3 xn yn := ⟨_, rfl⟩
        obtain ⟨C1, hC1⟩ : ∃ C, C = c3 xv yv := ⟨_, rfl⟩
        obtain ⟨Z, hZ⟩ : ∃ Z, Z = lc (xn, xv) (yn, yv) := ⟨_, rfl⟩
        have k0 := fun W => less29 xn yn W
        have k1 := fun W => less29 xv yv W
        simp only [← hC0, ← hC1, ← hZ] at hst hlr hlo k0 k1
        have HST := Lib.hid hst
        have K0 := Lib.hid k0
        have K1 := Lib.hid k1
        rw [← hw2] at p0 p1 q0 q1 ⊢
        have e1 : decide (k < n0) = true := decide_eq_true hk0
        have e2 : decide (k < n1) = true := decide_eq_true hk1
        by_cases h00 : C0 = 0
        · have f1 : (C0 == 0) = true := by simp [h00]
          have hz : Z = C1 := by rw [← hlo]; unfold orI; rw [if_pos h00]
          by_cases h01 : C1 = 0
          · have f2 : (C1 != 0) = false := by simp [h01]
            have f3 : (C1 == 0) = true := by simp [h01]
            have HC : Hid (cmpL l0 l1 = cmpL (l0.drop (k + 1)) (l1.drop (k + 1))) := by
              show _ = _
              rw [hc.out, HST.out, if_pos (hz.trans h01)]
            clear h00 h01 hz hst hlo k0 k1 hC0 hC1 hZ hx hy hcc hcc' h0 h1 hw2
            go_wp2_with fail
            go_quiet ((go_at_call 29; exact Calls.quiet_of_same (K0.out _)))
            go_wp2_with fail
            obtain ⟨w3, hw3⟩ : ∃ w3, w3 = w2.drewN nq := ⟨_, rfl⟩
            have HW3 := Lib.hid hw3
            have p1' : w3.cell? ⟨b, off + k * 2 + 1, none⟩ = some (.string xv) := by rw [hw3]; exact p1
            have q1' : w3.cell? ⟨b', off' + k * 2 + 1, none⟩ = some (.string yv) := by rw [hw3]; exact q1
            rw [← hw3]
            clear hw3 p0 p1 q0 q1
            go_quiet ((go_at_call 29; exact Calls.quiet_of_same (K1.out _)))
            go_wp2_with fail
            go_roundw
            case rel => exact ⟨k + 1, by omega, by omega, by go_num, HC, _, by rw [HW3.out, HW.out]; simp only [World.drewN_drewN]; rfl⟩
            case measure => simp [intOf]; omega
          · have f2 : (C1 != 0) = true := by simpa using h01
            have f3 : (C1 == 0) = false := by simpa using h01
            have HC : Hid (cmpL l0 l1 = C1) := by
              show _ = _
              rw [hc.out, HST.out, if_neg (by rw [hz]; exact h01), hz]
            clear h00 h01 hz hst hlo k0 k1 hC0 hC1 hZ hx hy hcc hcc' h0 h1 hw2
            go_wp2_with fail
            go_quiet ((go_at_call 29; exact Calls.quiet_of_same (K0.out _)))
            go_wp2_with fail
            obtain ⟨w3, hw3⟩ : ∃ w3, w3 = w2.drewN nq := ⟨_, rfl⟩
            have HW3 := Lib.hid hw3
            have p1' : w3.cell? ⟨b, off + k * 2 + 1, none⟩ = some (.string xv) := by rw [hw3]; exact p1
            have q1' : w3.cell? ⟨b', off' + k * 2 + 1, none⟩ = some (.string yv) := by rw [hw3]; exact q1
            rw [← hw3]
            clear hw3 p0 p1 q0 q1
            go_quiet ((go_at_call 29; exact Calls.quiet_of_same (K1.out _)))
            go_wp2_with fail
            go_ret
            exact ⟨by rw [HC.out]; rfl, _, by rw [HW3.out, HW.out]; simp only [World.drewN_drewN]; rfl⟩
        · have f1 : (C0 == 0) = false := by simpa using h00
          have f2 : (C0 != 0) = true := by simpa using h00
          have hz : Z = C0 := by rw [← hlo]; unfold orI; rw [if_neg h00]
          have HC : Hid (cmpL l0 l1 = C0) := by
            show _ = _
            rw [hc.out, HST.out, if_neg (by rw [hz]; exact h00), hz]
          clear h00 hz hst hlo k0 k1 hC0 hC1 hZ hx hy hcc hcc' h0 h1 hw2
          go_wp2_with fail
          go_quiet ((go_at_call 29; exact Calls.quiet_of_same (K0.out _)))
          go_wp2_with fail
          go_ret
          exact ⟨by rw [HC.out]; rfl, _, by rw [HW.out]; simp only [World.drewN_drewN]; rfl⟩
      · obtain rfl : k = n1 := by omega
        have hfin := cmpL_end (a := l0) (b := l1) (k := k) (by rw [h0.1, h1.1]; omega)
        rw [h0.1, h1.1] at hfin
        unfold Lib.compareInt at hfin
        rw [if_neg (by omega), if_pos (by omega)] at hfin
        have HC := Lib.hid (hc.out.trans hfin)
        have e1 : decide (k < n0) = true := decide_eq_true hk0
        have e2 : decide (k < k) = false := decide_eq_false hk1
        have e3 : decide (n0 < k) = false := decide_eq_false (by omega)
        clear hfin hw2
        go_wp2_with fail
        go_ret
        exact ⟨by rw [HC.out]; rfl, _, rfl⟩
    · obtain rfl : k = n0 := by omega
      have hfin := cmpL_end (a := l0) (b := l1) (k := k) (by rw [h0.1, h1.1]; omega)
      rw [h0.1, h1.1] at hfin
      unfold Lib.compareInt at hfin
      have e1 : decide (k < k) = false := decide_eq_false hk0
      by_cases hk1 : k < n1
      · rw [if_pos (by omega)] at hfin
        have HC := Lib.hid (hc.out.trans hfin)
        have e3 : decide (k < n1) = true := decide_eq_true hk1
        clear hfin hw2
        go_wp2_with fail
        go_ret
        exact ⟨by rw [HC.out]; rfl, _, rfl⟩
      · obtain rfl : k = n1 := by omega
        rw [if_neg (by omega), if_neg (by omega)] at hfin
        have HC := Lib.hid (hc.out.trans hfin)
        clear hfin hw2
        go_wp2_with fail
        go_ret
        exact ⟨by rw [HC.out]; rfl, _, rfl⟩
end Go.Proofs.Ytlicnadbccjbjaa
