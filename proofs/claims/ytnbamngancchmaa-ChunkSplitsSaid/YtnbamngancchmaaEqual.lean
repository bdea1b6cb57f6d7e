/- What SameInts and slices.Equal of bytes answer: whether two lists are one. Conditions: at most 10^9 elements. -/
import Derived.Test.YtnbamngancchmaaSget
namespace Go.Proofs.Ytnbamngancchmaa
open Go.RowKit PB PS

theorem take_eq_succ {α : Type} {l m : List α} {k : Nat} {d : α} (h : l.take k = m.take k) (h1 : k < l.length) (h2 : k < m.length) (he : l.getD k d = m.getD k d) : l.take (k + 1) = m.take (k + 1) := by
  simp only [List.getD, List.getElem?_eq_getElem h1, List.getElem?_eq_getElem h2, Option.getD_some] at he
  rw [List.take_succ_eq_append_getElem h1, List.take_succ_eq_append_getElem h2, h, he]
theorem Rd.byte {w : World} {B : Nat} {A : Option Addr} {n : Nat} {l : List Nat} (h : Rd w B A n (l.map bv)) {k : Nat} (hk : k < n) : ∃ b off, A = some ⟨b, off, none⟩ ∧ b < B ∧ ∀ j, j < n → w.cell? ⟨b, off + j, none⟩ = some (.int .u8 ((l.getD j 0 : Nat) : Int)) := by
  obtain ⟨b, off, e, hb, hc⟩ := h.2 (by omega)
  refine ⟨b, off, e, hb, fun j hj => hc j _ ?_⟩
  have hl : j < l.length := by have := h.1; simp at this; omega
  simp [List.getD, hl, bv]
theorem Rd.blen {w : World} {B : Nat} {A : Option Addr} {n : Nat} {l : List Nat} (h : Rd w B A n (l.map bv)) : l.length = n := by have := h.1; simpa using this
theorem Rd.drewN {w : World} {B n : Nat} {A : Option Addr} {xs : List Value} (h : Rd w B A n xs) (k : Nat) : Rd (w.drewN k) B A n xs := h

set_option maxRecDepth 100000 in
theorem sameInts_any (A1 A2 : Option Addr) (n1 c1 B1 n2 c2 B2 : Nat) (l m : List Int) (w : World) (h1 : Rd w B1 A1 n1 (ints l)) (h2 : Rd w B2 A2 n2 (ints m)) (hn : n1 ≤ 1000000000) (hn2 : n2 ≤ 1000000000) :
    Calls Try.prog 19 #[.slice A1 n1 c1, .slice A2 n2 c2] w fun e w' => e = .returned (.bool (decide (l = m))) ∧ ∃ k, w' = w.drewN k := by
  have hl := h1.len
  have hm := h2.len
  by_cases hne : n1 = n2
  · subst hne
    have HL := Lib.hid hl
    have HM := Lib.hid hm
    clear hl hm
    go_enter Try.func19, Try.ntmps19
    go_wp2_with fail
    go_loopw [5] (fun i wr => ∃ k : Nat, k ≤ n1 ∧ i = .int .i64 k ∧ Hid (l.take k = m.take k) ∧ Hid (∃ j, wr = w.drewN j)) (fun i _ => n1 - (intOf i).toNat)
    case atStart => exact ⟨0, Nat.zero_le _, rfl, rfl, ⟨0, rfl⟩⟩
    case round =>
      obtain ⟨k, hk, rfl, HT, HW⟩ := hrel
      by_cases hlt : k < n1
      · obtain ⟨j, hj⟩ := HW.out
        subst hj
        obtain ⟨b, off, rfl, _, hc⟩ := h1.int hlt
        obtain ⟨b2, off2, rfl, _, hc2⟩ := h2.int hlt
        have x1 := hc k hlt
        have x2 := hc2 k hlt
        clear hc hc2
        obtain ⟨x, hx⟩ : ∃ x, x = l.getD k 0 := ⟨_, rfl⟩
        obtain ⟨y, hy⟩ : ∃ y, y = m.getD k 0 := ⟨_, rfl⟩
        rw [← hx] at x1
        rw [← hy] at x2
        have HX := Lib.hid hx
        have HY := Lib.hid hy
        clear hx hy
        by_cases he : x = y
        · have HE : Hid (l.take (k + 1) = m.take (k + 1)) := take_eq_succ (d := 0) HT.out (by rw [HL.out]; exact hlt) (by rw [HM.out]; exact hlt) (by rw [← HX.out, ← HY.out]; exact he)
          have hb : (x != y) = false := by simp [he]
          clear he
          go_wp2_with fail
          go_quiet (fail)
          go_wp2_with fail
          go_roundw
          case rel => exact ⟨k + 1, by omega, by go_num, HE, ⟨_, rfl⟩⟩
          case measure => simp [intOf]; omega
        · have HE : Hid (decide (l = m) = false) := by
            show _ = _
            rw [decide_eq_false_iff_not]
            intro h
            subst h
            exact he (by rw [HX.out, HY.out])
          have hb : (x != y) = true := by simpa using he
          clear he
          go_wp2_with fail
          go_quiet (fail)
          go_wp2_with fail
          go_ret
          exact ⟨by rw [HE.out]; rfl, _, World.drewN_drewN _ _ _⟩
      · have HE : Hid (decide (l = m) = true) := by
          show _ = _
          rw [decide_eq_true_iff]
          have := HT.out
          rwa [List.take_of_length_le (by rw [HL.out]; omega), List.take_of_length_le (by rw [HM.out]; omega)] at this
        obtain ⟨j, hj⟩ := HW.out
        subst hj
        go_wp2_with fail
        go_ret
        exact ⟨by rw [HE.out]; rfl, _, rfl⟩
  · have HE : Hid (decide (l = m) = false) := by
      show _ = _
      rw [decide_eq_false_iff_not]
      intro h
      subst h
      omega
    clear hl hm
    have hb : ((n1 : Int) != (n2 : Int)) = true := by rw [bne_iff_ne]; omega
    go_enter Try.func19, Try.ntmps19
    go_wp2_with fail
    go_ret
    exact ⟨by rw [HE.out]; rfl, 0, rfl⟩

set_option maxRecDepth 100000 in
theorem equal_any (A1 A2 : Option Addr) (n1 c1 B1 n2 c2 B2 : Nat) (l m : List Nat) (w : World) (h1 : Rd w B1 A1 n1 (l.map bv)) (h2 : Rd w B2 A2 n2 (m.map bv)) (hn : n1 ≤ 1000000000) (hn2 : n2 ≤ 1000000000) :
    Calls Try.prog 48 #[.slice A1 n1 c1, .slice A2 n2 c2] w fun e w' => e = .returned (.bool (decide (l = m))) ∧ ∃ k, w' = w.drewN k := by
  have hl := h1.blen
  have hm := h2.blen
  by_cases hne : n1 = n2
  · subst hne
    have HL := Lib.hid hl
    have HM := Lib.hid hm
    clear hl hm
    go_enter Try.func48, Try.ntmps48
    go_wp2_with fail
    go_loopw [13] (fun i wr => ∃ k : Nat, k ≤ n1 ∧ i = .int .i64 k ∧ Hid (l.take k = m.take k) ∧ Hid (∃ j, wr = w.drewN j)) (fun i _ => n1 - (intOf i).toNat)
    case atStart => exact ⟨0, Nat.zero_le _, rfl, rfl, ⟨0, rfl⟩⟩
    case round =>
      obtain ⟨k, hk, rfl, HT, HW⟩ := hrel
      by_cases hlt : k < n1
      · obtain ⟨j, hj⟩ := HW.out
        subst hj
        obtain ⟨b, off, rfl, _, hc⟩ := h1.byte hlt
        obtain ⟨b2, off2, rfl, _, hc2⟩ := h2.byte hlt
        have x1 := hc k hlt
        have x2 := hc2 k hlt
        clear hc hc2
        obtain ⟨x, hx⟩ : ∃ x, x = l.getD k 0 := ⟨_, rfl⟩
        obtain ⟨y, hy⟩ : ∃ y, y = m.getD k 0 := ⟨_, rfl⟩
        rw [← hx] at x1
        rw [← hy] at x2
        have HX := Lib.hid hx
        have HY := Lib.hid hy
        clear hx hy
        by_cases he : x = y
        · have HE : Hid (l.take (k + 1) = m.take (k + 1)) := take_eq_succ (d := 0) HT.out (by rw [HL.out]; exact hlt) (by rw [HM.out]; exact hlt) (by rw [← HX.out, ← HY.out]; exact he)
          have hb : ((x : Int) != (y : Int)) = false := by simp [he]
          clear he
          go_wp2_with fail
          go_quiet (fail)
          go_wp2_with fail
          go_roundw
          case rel => exact ⟨k + 1, by omega, by go_num, HE, ⟨_, rfl⟩⟩
          case measure => simp [intOf]; omega
        · have HE : Hid (decide (l = m) = false) := by
            show _ = _
            rw [decide_eq_false_iff_not]
            intro h
            subst h
            exact he (by rw [HX.out, HY.out])
          have hb : ((x : Int) != (y : Int)) = true := by rw [bne_iff_ne]; omega
          clear he
          go_wp2_with fail
          go_quiet (fail)
          go_wp2_with fail
          go_ret
          exact ⟨by rw [HE.out]; rfl, _, World.drewN_drewN _ _ _⟩
      · have HE : Hid (decide (l = m) = true) := by
          show _ = _
          rw [decide_eq_true_iff]
          have := HT.out
          rwa [List.take_of_length_le (by rw [HL.out]; omega), List.take_of_length_le (by rw [HM.out]; omega)] at this
        obtain ⟨j, hj⟩ := HW.out
        subst hj
        go_wp2_with fail
        go_ret
        exact ⟨by rw [HE.out]; rfl, _, rfl⟩
  · have HE : Hid (decide (l = m) = false) := by
      show _ = _
      rw [decide_eq_false_iff_not]
      intro h
      subst h
      omega
    clear hl hm
    have hb : ((n1 : Int) != (n2 : Int)) = true := by rw [bne_iff_ne]; omega
    go_enter Try.func48, Try.ntmps48
    go_wp2_with fail
    go_ret
    exact ⟨by rw [HE.out]; rfl, 0, rfl⟩
end Go.Proofs.Ytnbamngancchmaa
