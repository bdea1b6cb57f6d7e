/- What labels.Word answers. Conditions: texts of at most 10^6 bytes. -/
import Derived.Test.YtghklmhmhekjgaaProg
import Derived.Test.YtghklmhmhekjgaaWords
import Derived.Laws.RangeAny
import Derived.Laws.Strings
import Derived.Lib.Strings
import Derived.BigQuiet
import Derived.Deep.QuietTactic
import Derived.Deep.RegionHeld3
import Derived.Laws.BitsAllLaws
import Derived.WalkSpells
import Derived.Laws.Cover1
namespace Go.Proofs.Ytghklmhmhekjgaa
open Go.RowKit

theorem below_drewN {B : Nat} {w w' : World} (h : Below B w w') (n : Nat) : Below B w (w'.drewN n) := ⟨h.os, h.tape, h.output, h.size, h.block⟩
def okB (c : UInt8) : Bool := (decide (97 ≤ c.toNat) && decide (c.toNat ≤ 122)) || (decide (65 ≤ c.toNat) && decide (c.toNat ≤ 90)) || (decide (48 ≤ c.toNat) && decide (c.toNat ≤ 57)) || decide (c.toNat = 95)
/-- Bytes of names, as numbers. -/
def okN (c : Nat) : Bool := (decide (97 ≤ c) && decide (c ≤ 122)) || (decide (65 ≤ c) && decide (c ≤ 90)) || (decide (48 ≤ c) && decide (c ≤ 57)) || decide (c = 95)
theorem okB_okN (c : UInt8) : okB c = okN c.toNat := rfl
/-- All the bytes ahead of k are bytes of names. -/
def okTo (s : ByteArray) (k : Nat) : Prop := ∀ i, i < k → ∀ h : i < s.size, okB s[i] = true
theorem okTo_succ {s : ByteArray} {k : Nat} (h : okTo s k) (hk : k < s.size) (hb : okB s[k] = true) : okTo s (k + 1) := by
  intro i hi his
  by_cases e : i = k
  · subst e; exact hb
  · exact h i (by omega) his

theorem okN_class (c : Nat) : (okN c = true ∧ ((97 ≤ c ∧ c ≤ 122) ∨ (65 ≤ c ∧ c ≤ 90) ∨ (48 ≤ c ∧ c ≤ 57) ∨ c = 95)) ∨ (okN c = false ∧ (c < 48 ∨ (57 < c ∧ c < 65) ∨ (90 < c ∧ c < 95) ∨ (95 < c ∧ c < 97) ∨ 122 < c)) := by
  by_cases h : (97 ≤ c ∧ c ≤ 122) ∨ (65 ≤ c ∧ c ≤ 90) ∨ (48 ≤ c ∧ c ≤ 57) ∨ c = 95
  · refine .inl ⟨?_, h⟩
    rcases h with h | h | h | h <;> simp [okN, h]
  · refine .inr ⟨?_, by omega⟩
    cases ho : okN c with
    | false => rfl
    | true => simp [okN] at ho; omega

theorem empty_iff (s : ByteArray) : s.size = 0 ↔ s = ⟨#[]⟩ := by
  constructor
  · intro h
    cases s with
    | mk d => rw [show d = #[] from Array.eq_empty_of_size_eq_zero h]
  · rintro rfl; rfl
theorem not_empty {s : ByteArray} (h : s.size ≠ 0) : s.toList.isEmpty = false := by
  rw [ByteArray.toList_eq]
  cases e : s.data.toList with
  | nil => exact absurd (by have := congrArg List.length e; simpa using this) h
  | cons a l => rfl
/-- A text out of bytes. -/
def bs (l : List UInt8) : ByteArray := ⟨l.toArray⟩
theorem bs_data (l : List UInt8) : (bs l).data.toList = l := by simp [bs]
theorem bs_of (s : ByteArray) : bs s.data.toList = s := by cases s; simp [bs]
theorem bs_size (l : List UInt8) : (bs l).size = l.length := rfl
theorem bs_toList (l : List UInt8) : (bs l).toList = l := by rw [ByteArray.toList_eq, bs_data]
theorem bs_inj {a b : List UInt8} (h : bs a = bs b) : a = b := by rw [← bs_data a, h, bs_data]
theorem word_take {x r : List UInt8} {c : UInt8} (h : x.all okB = true) (hc : okB c = false) : (x ++ c :: r).takeWhile okB = x ∧ (x ++ c :: r).dropWhile okB = c :: r := by
  induction x with
  | nil => simp [hc]
  | cons a x ih =>
    rw [List.all_cons, Bool.and_eq_true] at h
    have := ih h.2
    simp [h.1, this.1, this.2]

theorem all_while {l : List UInt8} (h : l.all okB = true) : l.takeWhile okB = l ∧ l.dropWhile okB = [] := by
  induction l with
  | nil => exact ⟨rfl, rfl⟩
  | cons a l ih =>
    rw [List.all_cons, Bool.and_eq_true] at h
    have := ih h.2
    simp [h.1, this.1, this.2]
theorem take_to {s : ByteArray} {k : Nat} (h : okTo s k) (hk : k ≤ s.size) (hs : k = s.size ∨ ∃ h : k < s.size, okB s[k] = false) : s.data.toList.takeWhile okB = s.data.toList.take k ∧ s.data.toList.dropWhile okB = s.data.toList.drop k := by
  have e : s.data.toList = s.data.toList.take k ++ s.data.toList.drop k := (List.take_append_drop _ _).symm
  have hall : (s.data.toList.take k).all okB = true := by
    rw [List.all_eq_true]
    intro x hx
    obtain ⟨i, hi, rfl⟩ := List.mem_iff_getElem.1 hx
    simp only [List.length_take, Array.length_toList] at hi
    have := h i (by omega) (by have : s.size = s.data.size := rfl; omega)
    simp
    exact this
  rcases hs with hs | ⟨hlt, hb⟩
  · have hd : s.data.toList.drop k = [] := List.drop_eq_nil_of_le (by rw [hs]; simp)
    have ht : s.data.toList.take k = s.data.toList := List.take_of_length_le (by rw [hs]; simp)
    rw [hd, ht]
    rw [ht] at hall
    exact all_while hall
  · have hd : s.data.toList.drop k = s[k] :: s.data.toList.drop (k + 1) := by
      rw [List.drop_eq_getElem_cons (by simpa using hlt)]; rfl
    have := word_take (r := s.data.toList.drop (k + 1)) hall hb
    rw [← hd, ← e] at this
    exact this
theorem cut_head (s : ByteArray) (k : Nat) : s.extract 0 k = bs (s.data.toList.take k) := by rw [Lib.extract_eq]; simp [bs]
theorem cut_tail (s : ByteArray) (k : Nat) : s.extract k s.size = bs (s.data.toList.drop k) := by
  rw [Lib.extract_eq, List.take_of_length_le (by rw [List.length_drop]; simp)]; rfl

/-- What Word answers. -/
def WPost (w : World) (s : ByteArray) (e : Ending) (w' : World) : Prop :=
  e = .returned (.tuple #[.string (bs (s.data.toList.takeWhile okB)), .string (bs (s.data.toList.dropWhile okB))]) ∧ Below w.heap.size w w'
theorem wpost_mk {w w' : World} {s : ByteArray} {k : Nat} (h : okTo s k) (hk : k ≤ s.size) (hs : k = s.size ∨ ∃ h : k < s.size, okB s[k] = false) (hb : Below w.heap.size w w') :
    WPost w s (.returned (.tuple #[.string (s.extract 0 k), .string (s.extract k s.size)])) w' := by
  obtain ⟨h1, h2⟩ := take_to h hk hs
  refine ⟨?_, hb⟩
  rw [h1, h2, cut_head, cut_tail]

theorem wpost_all {w w' : World} {s : ByteArray} (h : okTo s s.size) (hb : Below w.heap.size w w') : WPost w s (.returned (.tuple #[.string s, .string ByteArray.empty])) w' := by
  obtain ⟨h1, h2⟩ := take_to h (Nat.le_refl _) (.inl rfl)
  refine ⟨?_, hb⟩
  rw [h1, h2, List.take_of_length_le (by simp), List.drop_eq_nil_of_le (by simp), bs_of]
  rfl

set_option maxRecDepth 100000 in
set_option maxHeartbeats 4000000 in
theorem word34 (s : ByteArray) (w : World) (hs : s.size ≤ 1000000) : Calls Try.prog 34 #[.string s] w (WPost w s) := by
  go_enter Try.func34, Try.ntmps34
  go_wp2_with fail
  go_loopw [4, 5, 6] (fun n _ _ wr => ∃ k : Nat, k ≤ s.size ∧ n = .int .i64 s.size ∧ wr = w.iter s k ∧ okTo s k) (fun _ _ _ wr => s.size - wr.iterPos w.heap.size)
  case atStart => exact ⟨0, Nat.zero_le _, rfl, rfl, fun i hi => by omega⟩
  case round =>
    obtain ⟨k, hk, rfl, rfl, hok⟩ := hrel
    have HB := Lib.hid ((((Below.refl w.heap.size w).alloc (Nat.le_refl _) (Obj.stringIter s k))))
    by_cases hlt : k < s.size
    · by_cases h128 : s[k].toNat < 128
      · have hnx : ∀ ty, (Instr.next (.pointer (some ⟨w.heap.size, 0, none⟩)) true ty).run Try.prog (w.iter s k) = _ := fun ty => run_next_ascii w s k ty hlt h128
        have hb := okB_okN s[k]
        rcases okN_class s[k].toNat with ⟨ho, hc⟩ | ⟨ho, hc⟩
        · rw [ho] at hb
          have HO := Lib.hid hb
          clear ho hb
          rcases hc with ⟨hc1, hc2⟩ | ⟨hc1, hc2⟩ | ⟨hc1, hc2⟩ | hc1
          all_goals
            try have n95 : (((s[k].toNat : Nat) : Int) != 95) = false := by simp; omega
            go_wp2_with fail
            go_roundw
            case rel => exact ⟨k + 1, by omega, rfl, rfl, okTo_succ hok hlt HO.out⟩
            case measure => simp; omega
        · rw [ho] at hb
          have HO := Lib.hid hb
          clear ho hb
          rcases hc with hc1 | ⟨hc1, hc2⟩ | ⟨hc1, hc2⟩ | ⟨hc1, hc2⟩ | hc1
          all_goals
            have n95 : (((s[k].toNat : Nat) : Int) != 95) = true := by rw [bne_iff_ne]; omega
            try have d57 : decide (((s[k].toNat : Nat) : Int) ≤ 57) = false := decide_eq_false (by omega)
            try have d90 : decide (((s[k].toNat : Nat) : Int) ≤ 90) = false := decide_eq_false (by omega)
            try have d122 : decide (((s[k].toNat : Nat) : Int) ≤ 122) = false := decide_eq_false (by omega)
            have z1 : (k : Int) ≤ (s.size : Int) := by omega
            have z0 : (0 : Int) ≤ (k : Int) := by omega
            go_wp2_with fail
            go_quiet (fail)
            go_wp2_with fail
            go_ret2
            exact wpost_mk hok hk (.inr ⟨hlt, HO.out⟩) (below_drewN ((Below.refl _ _).alloc (Nat.le_refl _) _) _)
      · have hnx : ∀ ty, (Instr.next (.pointer (some ⟨w.heap.size, 0, none⟩)) true ty).run Try.prog (w.iter s k) = _ := fun ty => run_next_any w s k ty hlt
        have hdh := (decode_high s k hlt (by omega)).1
        have hb : okB s[k] = false := by
          rw [okB_okN]
          rcases okN_class s[k].toNat with ⟨_, hc⟩ | ⟨ho, _⟩
          · omega
          · exact ho
        have HO := Lib.hid hb
        clear hb
        obtain ⟨r, hr⟩ : ∃ r, r = (Utf8.decode s k).1 := ⟨_, rfl⟩
        obtain ⟨p2, hp2⟩ : ∃ p2, p2 = (Utf8.decode s k).2 := ⟨_, rfl⟩
        rw [← hr] at hdh
        rw [← hr, ← hp2] at hnx
        clear hr hp2
        have n95 : (((r : Nat) : Int) != 95) = true := by rw [bne_iff_ne]; omega
        have d57 : decide (((r : Nat) : Int) ≤ 57) = false := decide_eq_false (by omega)
        have d90 : decide (((r : Nat) : Int) ≤ 90) = false := decide_eq_false (by omega)
        have d122 : decide (((r : Nat) : Int) ≤ 122) = false := decide_eq_false (by omega)
        have z1 : (k : Int) ≤ (s.size : Int) := by omega
        have z0 : (0 : Int) ≤ (k : Int) := by omega
        go_wp2_with fail
        go_quiet (fail)
        go_wp2_with fail
        go_ret2
        exact wpost_mk hok hk (.inr ⟨hlt, HO.out⟩) (below_drewN ((Below.refl _ _).alloc (Nat.le_refl _) _) _)
    · have hnx : ∀ ty, (Instr.next (.pointer (some ⟨w.heap.size, 0, none⟩)) true ty).run Try.prog (w.iter s k) = _ := fun ty => run_next_end w s k ty hlt
      obtain rfl : k = s.size := by omega
      have z1 : (s.size : Int) ≤ (s.size : Int) := by omega
      have z0 : (0 : Int) ≤ (s.size : Int) := by omega
      go_wp2_with fail
      go_quiet (fail)
      go_wp2_with fail
      go_ret2
      exact wpost_all hok (below_drewN ((Below.refl _ _).alloc (Nat.le_refl _) _) _)
end Go.Proofs.Ytghklmhmhekjgaa
