/- Which plans the program lets be. Conditions: names of at most 10^6 bytes. -/
import Derived.Test.YtghklmhmhekjgaaWord
import Derived.Test.YtghklmhmhekjgaaPmap
namespace Go.Proofs.Ytghklmhmhekjgaa
open Go.RowKit

/-- Which plans may be. -/
def OkP (n : ByteArray) (f t r : Int) : Prop :=
  n.data.toList.all okB = true ∧ 0 < n.size ∧ n.size ≤ 64 ∧ -9007199254740992 ≤ f ∧ f ≤ 9007199254740992 ∧ -9007199254740992 ≤ t ∧ t ≤ 9007199254740992 ∧ f < t ∧ 0 ≤ r ∧ r ≤ 1048576
instance (n : ByteArray) (f t r : Int) : Decidable (OkP n f t r) := by unfold OkP; infer_instance
/-- What Check answers. -/
def chkE (n : ByteArray) (f t r : Int) : Int := if OkP n f t r then 0 else 30
theorem chk_ok {n : ByteArray} {f t r : Int} (h : OkP n f t r) : chkE n f t r = 0 := if_pos h
theorem chk_no {n : ByteArray} {f t r : Int} (h : ¬ OkP n f t r) : chkE n f t r = 30 := if_neg h
theorem chk_cases (n : ByteArray) (f t r : Int) : (OkP n f t r ∧ chkE n f t r = 0) ∨ (¬ OkP n f t r ∧ chkE n f t r = 30) := by
  by_cases h : OkP n f t r
  · exact .inl ⟨h, chk_ok h⟩
  · exact .inr ⟨h, chk_no h⟩

set_option maxRecDepth 100000 in
set_option maxHeartbeats 1000000 in
theorem timed35 (x : Int) (w : World) : Calls Try.prog 35 #[.int .i64 x] w fun e w' => e = .returned (.bool (decide (-9007199254740992 ≤ x) && decide (x ≤ 9007199254740992))) ∧ w' = w := by
  by_cases h1 : -9007199254740992 ≤ x
  · have d1 : decide (-9007199254740992 ≤ x) = true := decide_eq_true h1
    by_cases h2 : x ≤ 9007199254740992
    · have d2 : decide (x ≤ 9007199254740992) = true := decide_eq_true h2
      rw [d1, d2]
      go_enter Try.func35, Try.ntmps35
      go_wp2_with fail
      go_ret
      exact ⟨rfl, rfl⟩
    · have d2 : decide (x ≤ 9007199254740992) = false := decide_eq_false h2
      rw [d1, d2]
      go_enter Try.func35, Try.ntmps35
      go_wp2_with fail
      go_ret
      exact ⟨rfl, rfl⟩
  · have d1 : decide (-9007199254740992 ≤ x) = false := decide_eq_false h1
    rw [d1]
    go_enter Try.func35, Try.ntmps35
    go_wp2_with fail
    go_ret
    exact ⟨rfl, rfl⟩

theorem drop_ne {l : List UInt8} (h : l.all okB = false) : l.dropWhile okB ≠ [] := by
  induction l with
  | nil => cases h
  | cons a l ih =>
    rw [List.dropWhile_cons]
    by_cases ha : okB a = true
    · rw [List.all_cons, ha, Bool.true_and] at h
      rw [if_pos ha]
      exact ih h
    · rw [if_neg ha]
      simp

theorem bs_empty (l : List UInt8) : (bs l).toList.isEmpty = l.isEmpty := by rw [ByteArray.toList_eq, bs_data]

theorem yes_empty {s : ByteArray} (h : s.size = 0) : s.toList.isEmpty = true := by
  obtain rfl := (empty_iff s).1 h
  rw [ByteArray.toList_eq]
  rfl

/-- What Check leaves. -/
def CPost (w : World) (n : ByteArray) (f t r : Int) (e : Ending) (w' : World) : Prop := e = .returned (.int .i64 (chkE n f t r)) ∧ Below w.heap.size w w'
theorem cpost_no {w w' : World} {n : ByteArray} {f t r : Int} (h : ¬ OkP n f t r) (hb : Below w.heap.size w w') : CPost w n f t r (.returned (.int .i64 30)) w' := ⟨by rw [chk_no h], hb⟩
theorem cpost_ok {w w' : World} {n : ByteArray} {f t r : Int} (h : OkP n f t r) (hb : Below w.heap.size w w') : CPost w n f t r (.returned (.int .i64 0)) w' := ⟨by rw [chk_ok h], hb⟩

set_option maxRecDepth 100000 in
set_option maxHeartbeats 4000000 in
theorem check17 (n : ByteArray) (f t r : Int) (w : World) (hs : n.size ≤ 1000000) :
    Calls Try.prog 17 #[.agg #[.string n, .int .i64 f, .int .i64 t, .int .i64 r]] w (CPost w n f t r) := by
  have hw := fun W => word34 n W hs
  unfold WPost at hw
  have HW := Lib.hid hw
  clear hw
  have HT := Lib.hid timed35
  go_enter Try.func17, Try.ntmps17
  go_wp2_with fail
  refine (HW.out _).mono ?_
  rintro e w1 ⟨rfl, hb1⟩
  have hA : Arr w1 w.heap.size 27 #[.string n, .int .i64 f, .int .i64 t, .int .i64 r] := (Arr.new w 27 _).below hb1 (by simp)
  have hf0 : w1.cell? ⟨w.heap.size, 1, none⟩ = some (.int .i64 f) := hA.at_ rfl
  have ht0 : w1.cell? ⟨w.heap.size, 2, none⟩ = some (.int .i64 t) := hA.at_ rfl
  have hr0 : w1.cell? ⟨w.heap.size, 3, none⟩ = some (.int .i64 r) := hA.at_ rfl
  have HB := Lib.hid (((Below.refl w.heap.size w).alloc (Nat.le_refl _) _).trans (hb1.mono (by simp)))
  clear hb1 hA
  obtain ⟨x, hx⟩ : ∃ x, x = bs (n.data.toList.takeWhile okB) := ⟨_, rfl⟩
  obtain ⟨y, hy⟩ : ∃ y, y = bs (n.data.toList.dropWhile okB) := ⟨_, rfl⟩
  rw [← hx, ← hy]
  by_cases hall : n.data.toList.all okB = true
  · obtain ⟨e1, e2⟩ := all_while hall
    rw [e1, bs_of] at hx
    rw [e2] at hy
    subst hx
    have hye : y.toList.isEmpty = true := by rw [hy, bs_empty]; rfl
    clear hy e1 e2
    by_cases h0 : x.size = 0
    · have hxe : x.toList.isEmpty = true := yes_empty h0
      have hno : ¬ OkP x f t r := fun h => by have := h.2.1; omega
      have HN := Lib.hid hno
      clear h0 hno hall
      go_wp2_with fail
      go_ret
      exact cpost_no HN.out HB.out
    · have hxe := not_empty h0
      by_cases h64 : x.size ≤ 64
      · have d64 : decide (64 < ((x.size : Nat) : Int)) = false := decide_eq_false (by omega)
        have hpos : 0 < x.size := by omega
        clear h0
        by_cases hf : -9007199254740992 ≤ f ∧ f ≤ 9007199254740992
        · have df : (decide (-9007199254740992 ≤ f) && decide (f ≤ 9007199254740992)) = true := by simp [hf]
          by_cases ht : -9007199254740992 ≤ t ∧ t ≤ 9007199254740992
          · have dt : (decide (-9007199254740992 ≤ t) && decide (t ≤ 9007199254740992)) = true := by simp [ht]
            by_cases hft : f < t
            · have dft : decide (t ≤ f) = false := decide_eq_false (by omega)
              by_cases h0r : 0 ≤ r
              · have d0r : decide (r < 0) = false := decide_eq_false (by omega)
                by_cases hrm : r ≤ 1048576
                · have drm : decide (1048576 < r) = false := decide_eq_false (by omega)
                  have HN := Lib.hid (show OkP x f t r from ⟨hall, hpos, h64, hf.1, hf.2, ht.1, ht.2, hft, h0r, hrm⟩)
                  clear hall hf ht
                  go_wp2_with (first | (go_at_call 35; refine (HT.out _ _).mono ?_; rintro e w2 ⟨rfl, hw2⟩; rw [hw2]; clear hw2; first | rw [df] | rw [dt]))
                  go_ret
                  exact cpost_ok HN.out HB.out
                · have drm : decide (1048576 < r) = true := decide_eq_true (by omega)
                  have HN := Lib.hid (show ¬ OkP x f t r from fun h => hrm h.2.2.2.2.2.2.2.2.2)
                  clear hall hf ht
                  go_wp2_with (first | (go_at_call 35; refine (HT.out _ _).mono ?_; rintro e w2 ⟨rfl, hw2⟩; rw [hw2]; clear hw2; first | rw [df] | rw [dt]))
                  go_ret
                  exact cpost_no HN.out HB.out
              · have d0r : decide (r < 0) = true := decide_eq_true (by omega)
                have HN := Lib.hid (show ¬ OkP x f t r from fun h => h0r h.2.2.2.2.2.2.2.2.1)
                clear hall hf ht
                go_wp2_with (first | (go_at_call 35; refine (HT.out _ _).mono ?_; rintro e w2 ⟨rfl, hw2⟩; rw [hw2]; clear hw2; first | rw [df] | rw [dt]))
                go_ret
                exact cpost_no HN.out HB.out
            · have dft : decide (t ≤ f) = true := decide_eq_true (by omega)
              have HN := Lib.hid (show ¬ OkP x f t r from fun h => hft h.2.2.2.2.2.2.2.1)
              clear hall hf ht
              go_wp2_with (first | (go_at_call 35; refine (HT.out _ _).mono ?_; rintro e w2 ⟨rfl, hw2⟩; rw [hw2]; clear hw2; first | rw [df] | rw [dt]))
              go_ret
              exact cpost_no HN.out HB.out
          · have dt : (decide (-9007199254740992 ≤ t) && decide (t ≤ 9007199254740992)) = false := by
              by_cases h1 : -9007199254740992 ≤ t
              · have h2 : ¬ t ≤ 9007199254740992 := fun h => ht ⟨h1, h⟩
                simp [h2]
              · simp [h1]
            have HN := Lib.hid (show ¬ OkP x f t r from fun h => ht ⟨h.2.2.2.2.2.1, h.2.2.2.2.2.2.1⟩)
            clear hall hf ht
            go_wp2_with (first | (go_at_call 35; refine (HT.out _ _).mono ?_; rintro e w2 ⟨rfl, hw2⟩; rw [hw2]; clear hw2; first | rw [df] | rw [dt]))
            go_ret
            exact cpost_no HN.out HB.out
        · have df : (decide (-9007199254740992 ≤ f) && decide (f ≤ 9007199254740992)) = false := by
            by_cases h1 : -9007199254740992 ≤ f
            · have h2 : ¬ f ≤ 9007199254740992 := fun h => hf ⟨h1, h⟩
              simp [h2]
            · simp [h1]
          have HN := Lib.hid (show ¬ OkP x f t r from fun h => hf ⟨h.2.2.2.1, h.2.2.2.2.1⟩)
          clear hall hf
          go_wp2_with (first | (go_at_call 35; refine (HT.out _ _).mono ?_; rintro e w2 ⟨rfl, hw2⟩; rw [hw2]; clear hw2; first | rw [df] | rw [dt]))
          go_ret
          exact cpost_no HN.out HB.out
      · have d64 : decide (64 < ((x.size : Nat) : Int)) = true := decide_eq_true (by omega)
        have HN := Lib.hid (show ¬ OkP x f t r from fun h => h64 h.2.2.1)
        clear hall h0
        go_wp2_with fail
        go_ret
        exact cpost_no HN.out HB.out
  · have hye : y.toList.isEmpty = false := by
      rw [hy, bs_empty]
      have := drop_ne (l := n.data.toList) (by simpa using hall)
      cases e : n.data.toList.dropWhile okB with
      | nil => exact absurd e this
      | cons a l => rfl
    have HN := Lib.hid (show ¬ OkP n f t r from fun h => hall h.1)
    clear hy hall hx
    cases hxe : x.toList.isEmpty
    · go_wp2_with fail
      go_ret
      exact cpost_no HN.out HB.out
    · go_wp2_with fail
      go_ret
      exact cpost_no HN.out HB.out
end Go.Proofs.Ytghklmhmhekjgaa
