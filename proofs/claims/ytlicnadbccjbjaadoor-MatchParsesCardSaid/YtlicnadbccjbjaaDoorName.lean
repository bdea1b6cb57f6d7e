/- Which names the program and the reference let be. No conditions. -/
import Derived.Test.YtlicnadbccjbjaaDoorCmps
namespace Go.Proofs.YtlicnadbccjbjaaDoor
open Go.RowKit LB

/-- Bytes of names, as numbers. -/
def okN (c : Nat) : Bool := (decide (97 ≤ c) && decide (c ≤ 122)) || (decide (65 ≤ c) && decide (c ≤ 90)) || (decide (48 ≤ c) && decide (c ≤ 57)) || decide (c = 95)
theorem okB_okN (c : UInt8) : okB c = okN c.toNat := rfl
/-- All the bytes ahead of k are bytes of names. -/
def okTo (s : ByteArray) (k : Nat) : Prop := ∀ i, i < k → ∀ h : i < s.size, okB s[i] = true
theorem plain_iff (s : ByteArray) : plainB s = true ↔ okTo s s.size := by
  unfold plainB okTo
  rw [List.all_eq_true]
  constructor
  · intro h i _ hi
    exact h _ (by
      have : s[i] = s.data[i] := rfl
      rw [this]
      exact Array.getElem_mem_toList _)
  · intro h x hx
    obtain ⟨i, hi, rfl⟩ := List.mem_iff_getElem.1 hx
    have hi2 : i < s.size := by simpa using hi
    have h3 := h i hi2 hi2
    exact h3
theorem plain_not {s : ByteArray} {k : Nat} (hk : k < s.size) (h : okB s[k] = false) : plainB s = false := by
  cases hp : plainB s with
  | false => rfl
  | true => have := (plain_iff s).1 hp k hk hk; rw [h] at this; cases this
theorem okTo_succ {s : ByteArray} {k : Nat} (h : okTo s k) (hk : k < s.size) (hb : okB s[k] = true) : okTo s (k + 1) := by
  intro i hi his
  by_cases e : i = k
  · subst e; exact hb
  · exact h i (by omega) his

theorem okN_class (c : Nat) : (okN c = true ∧ ((97 ≤ c ∧ c ≤ 122) ∨ (65 ≤ c ∧ c ≤ 90) ∨ (48 ≤ c ∧ c ≤ 57) ∨ c = 95)) ∨ (okN c = false ∧ (c < 48 ∨ (57 < c ∧ c < 65) ∨ (90 < c ∧ c < 95) ∨ (95 < c ∧ c < 97) ∨ 122 < c)) := by
  by_cases h : (97 ≤ c ∧ c ≤ 122) ∨ (65 ≤ c ∧ c ≤ 90) ∨ (48 ≤ c ∧ c ≤ 57) ∨ c = 95
  · refine .inl ⟨?_, h⟩
    rcases h with h | h | h | h <;> simp [okN, h]
  · refine .inr ⟨?_, by omega⟩
    cases ho : okN c with
    | false => rfl
    | true => simp [okN] at ho; omega

set_option maxRecDepth 100000 in
set_option maxHeartbeats 2000000 in
theorem plain_any (s : ByteArray) (w : World) (hs : s.size ≤ 1000000) : Calls Tryd.prog 45 #[.string s] w fun e w' => e = .returned (.bool (plainB s)) ∧ w' = w := by
  go_enter Tryd.func45, Tryd.ntmps45
  go_wp2_with fail
  go_loopw [3, 4] (fun i _ wr => wr = w ∧ ∃ k : Nat, k ≤ s.size ∧ i = .int .i64 k ∧ okTo s k) (fun i _ _ => s.size - (intOf i).toNat)
  case atStart => exact ⟨rfl, 0, Nat.zero_le _, rfl, fun i hi => by omega⟩
  case round =>
    obtain ⟨rfl, k, hk, rfl, hok⟩ := hrel
    by_cases hlt : k < s.size
    · have hb := okB_okN s[k]
      rcases okN_class s[k].toNat with ⟨ho, hc⟩ | ⟨ho, hc⟩
      · rw [ho] at hb
        have HB := Lib.hid hb
        clear ho hb
        rcases hc with ⟨hc1, hc2⟩ | ⟨hc1, hc2⟩ | ⟨hc1, hc2⟩ | hc1
        all_goals
          go_wp2_with fail
          go_roundw
          case rel => exact ⟨by trivial, k + 1, by omega, by go_num, okTo_succ hok hlt HB.out⟩
          case measure => simp [intOf]; omega
      · rw [ho] at hb
        have HB := Lib.hid (plain_not hlt hb)
        clear ho hb
        rcases hc with hc1 | ⟨hc1, hc2⟩ | ⟨hc1, hc2⟩ | ⟨hc1, hc2⟩ | hc1
        all_goals
          have h95 : (((s[k].toNat : Nat) : Int) == 95) = false := by rw [beq_eq_false_iff_ne]; omega
          try have d57 : decide (((s[k].toNat : Nat) : Int) ≤ 57) = false := decide_eq_false (by omega)
          try have d90 : decide (((s[k].toNat : Nat) : Int) ≤ 90) = false := decide_eq_false (by omega)
          try have d122 : decide (((s[k].toNat : Nat) : Int) ≤ 122) = false := decide_eq_false (by omega)
          go_wp2_with fail
          go_ret
          exact ⟨by rw [HB.out]; rfl, rfl⟩
    · have hp : plainB s = true := by
        rw [plain_iff]
        exact fun i hi his => hok i (by omega) his
      go_wp2_with fail
      go_ret
      exact ⟨by rw [hp]; rfl, rfl⟩

theorem empty_iff (s : ByteArray) : s.size = 0 ↔ s = ⟨#[]⟩ := by
  constructor
  · intro h
    cases s with
    | mk d => rw [show d = #[] from Array.eq_empty_of_size_eq_zero h]
  · rintro rfl; rfl
theorem not_empty {s : ByteArray} (h : s.size ≠ 0) : s.toList.isEmpty = false := by
  rw [ByteArray.toList_eq]
  cases e : s.data.toList with
  | nil => exact absurd (by have := congrArg List.length e; simpa using this) h
  | cons a l => rfl
theorem head_get {s : ByteArray} (h : 0 < s.size) : s.data.toList.getD 0 0 = s[0] := by
  have : 0 < s.data.toList.length := by simpa using h
  simp [List.getD, List.getElem?_eq_getElem this]
  rfl

set_option maxRecDepth 100000 in
set_option maxHeartbeats 2000000 in
theorem rname_any (s : ByteArray) (w : World) : Calls Tryd.prog 31 #[.string s] w fun e w' => e = .returned (.bool (nameB s)) ∧ w' = w := by
  by_cases h0 : s.size = 0
  · obtain rfl := (empty_iff s).1 h0
    have hn : nameB ⟨#[]⟩ = false := by rfl
    rw [hn]
    go_enter Tryd.func31, Tryd.ntmps31
    go_wp2_with fail
    go_ret
    exact ⟨rfl, rfl⟩
  · have he := not_empty h0
    by_cases h64 : s.size ≤ 64
    · have hp := plain_any s w (by omega)
      have hh := head_get (s := s) (by omega)
      have d64 : decide (64 < ((s.size : Nat) : Int)) = false := decide_eq_false (by omega)
      have h0p : 0 < s.size := by omega
      by_cases hd : 48 ≤ s[0].toNat ∧ s[0].toNat ≤ 57
      · obtain ⟨hd1, hd2⟩ := hd
        have hn : nameB s = false := by
          unfold nameB; rw [hh]; simp [digitB, hd1, hd2]
        rw [hn]
        have e1 : decide ((48 : Int) ≤ ((s[0].toNat : Nat) : Int)) = true := decide_eq_true (by omega)
        have e2 : decide (((s[0].toNat : Nat) : Int) ≤ 57) = true := decide_eq_true (by omega)
        clear hn hh hp
        go_enter Tryd.func31, Tryd.ntmps31
        go_wp2_with fail
        go_ret
        exact ⟨rfl, rfl⟩
      · have hn : nameB s = plainB s := by
          unfold nameB; rw [hh]
          have : digitB s[0] = false := by
            cases hdd : digitB s[0] with
            | false => rfl
            | true => simp [digitB] at hdd; omega
          simp [this, h64, Nat.pos_of_ne_zero h0]
        rw [hn]
        clear hn hh
        by_cases h48 : 48 ≤ s[0].toNat
        · have e1 : decide ((48 : Int) ≤ ((s[0].toNat : Nat) : Int)) = true := decide_eq_true (by omega)
          have e2 : decide (((s[0].toNat : Nat) : Int) ≤ 57) = false := decide_eq_false (by omega)
          go_enter Tryd.func31, Tryd.ntmps31
          go_wp2_with (go_at_call 45; refine hp.mono ?_; rintro e w' ⟨rfl, rfl⟩)
          go_ret
          exact ⟨rfl, rfl⟩
        · have e1 : decide ((48 : Int) ≤ ((s[0].toNat : Nat) : Int)) = false := decide_eq_false (by omega)
          go_enter Tryd.func31, Tryd.ntmps31
          go_wp2_with (go_at_call 45; refine hp.mono ?_; rintro e w' ⟨rfl, rfl⟩)
          go_ret
          exact ⟨rfl, rfl⟩
    · have hn : nameB s = false := by unfold nameB; simp [h64]
      have d64 : decide (64 < ((s.size : Nat) : Int)) = true := decide_eq_true (by omega)
      rw [hn]
      clear hn
      go_enter Tryd.func31, Tryd.ntmps31
      go_wp2_with fail
      go_ret
      exact ⟨rfl, rfl⟩

set_option maxRecDepth 100000 in
set_option maxHeartbeats 4000000 in
theorem name_any (s : ByteArray) (w : World) : Calls Tryd.prog 42 #[.string s] w fun e w' => e = .returned (.bool (nameB s)) ∧ Below w.heap.size w w' := by
  by_cases h0 : s.size = 0
  · obtain rfl := (empty_iff s).1 h0
    have hn : nameB ⟨#[]⟩ = false := by rfl
    rw [hn]
    go_enter Tryd.func42, Tryd.ntmps42
    go_wp2_with fail
    go_ret
    exact ⟨rfl, Below.refl _ _⟩
  · have he := not_empty h0
    by_cases h64 : s.size ≤ 64
    · have hh := head_get (s := s) (by omega)
      have d64 : decide (64 < ((s.size : Nat) : Int)) = false := decide_eq_false (by omega)
      have h0p : 0 < s.size := by omega
      by_cases hd : 48 ≤ s[0].toNat ∧ s[0].toNat ≤ 57
      · obtain ⟨hd1, hd2⟩ := hd
        have hn : nameB s = false := by
          unfold nameB; rw [hh]; simp [digitB, hd1, hd2]
        rw [hn]
        have e1 : decide ((48 : Int) ≤ ((s[0].toNat : Nat) : Int)) = true := decide_eq_true (by omega)
        have e2 : decide (((s[0].toNat : Nat) : Int) ≤ 57) = true := decide_eq_true (by omega)
        clear hn hh
        go_enter Tryd.func42, Tryd.ntmps42
        go_wp2_with fail
        go_ret
        exact ⟨rfl, Below.refl _ _⟩
      · have hn : nameB s = plainB s := by
          unfold nameB; rw [hh]
          have : digitB s[0] = false := by
            cases hdd : digitB s[0] with
            | false => rfl
            | true => simp [digitB] at hdd; omega
          simp [this, h64, Nat.pos_of_ne_zero h0]
        rw [hn]
        clear hn hh
        by_cases h48 : 48 ≤ s[0].toNat
        · have e1 : decide ((48 : Int) ≤ ((s[0].toNat : Nat) : Int)) = true := decide_eq_true (by omega)
          have e2 : decide (((s[0].toNat : Nat) : Int) ≤ 57) = false := decide_eq_false (by omega)
          go_enter Tryd.func42, Tryd.ntmps42
          go_wp2_with fail
          go_loopw [4, 5] (fun _ _ wr => ∃ k : Nat, k ≤ s.size ∧ wr = w.iter s k ∧ okTo s k) (fun _ _ wr => s.size - wr.iterPos w.heap.size)
          case atStart => exact ⟨0, Nat.zero_le _, rfl, fun i hi => by omega⟩
          case round =>
            obtain ⟨k, hk, rfl, hok⟩ := hrel
            have HB := Lib.hid (((Below.refl w.heap.size w).alloc (Nat.le_refl _) (Obj.stringIter s k)))
            clear e1
            by_cases hlt : k < s.size
            · by_cases h128 : s[k].toNat < 128
              · have hnx : ∀ ty, (Instr.next (.pointer (some ⟨w.heap.size, 0, none⟩)) true ty).run Tryd.prog (w.iter s k) = _ := fun ty => run_next_ascii w s k ty hlt h128
                have hb := okB_okN s[k]
                rcases okN_class s[k].toNat with ⟨ho, hc⟩ | ⟨ho, hc⟩
                · rw [ho] at hb
                  have HO := Lib.hid hb
                  clear ho hb
                  rcases hc with ⟨hc1, hc2⟩ | ⟨hc1, hc2⟩ | ⟨hc1, hc2⟩ | hc1
                  all_goals
                    try have n95 : (((s[k].toNat : Nat) : Int) != 95) = false := by simp; omega
                    go_wp2_with fail
                    go_roundw
                    case rel => exact ⟨k + 1, by omega, rfl, okTo_succ hok hlt HO.out⟩
                    case measure => simp; omega
                · rw [ho] at hb
                  have HO := Lib.hid (plain_not hlt hb)
                  clear ho hb
                  rcases hc with hc1 | ⟨hc1, hc2⟩ | ⟨hc1, hc2⟩ | ⟨hc1, hc2⟩ | hc1
                  all_goals
                    have n95 : (((s[k].toNat : Nat) : Int) != 95) = true := by rw [bne_iff_ne]; omega
                    try have d57 : decide (((s[k].toNat : Nat) : Int) ≤ 57) = false := decide_eq_false (by omega)
                    try have d90 : decide (((s[k].toNat : Nat) : Int) ≤ 90) = false := decide_eq_false (by omega)
                    try have d122 : decide (((s[k].toNat : Nat) : Int) ≤ 122) = false := decide_eq_false (by omega)
                    go_wp2_with fail
                    go_ret
                    exact ⟨by rw [HO.out]; rfl, (Below.refl _ _).alloc (Nat.le_refl _) _⟩
              · have hnx : ∀ ty, (Instr.next (.pointer (some ⟨w.heap.size, 0, none⟩)) true ty).run Tryd.prog (w.iter s k) = _ := fun ty => run_next_any w s k ty hlt
                have hdh := (decode_high s k hlt (by omega)).1
                have hb : okB s[k] = false := by
                  rw [okB_okN]
                  rcases okN_class s[k].toNat with ⟨_, hc⟩ | ⟨ho, _⟩
                  · omega
                  · exact ho
                have HO := Lib.hid (plain_not hlt hb)
                clear hb
                obtain ⟨r, hr⟩ : ∃ r, r = (Utf8.decode s k).1 := ⟨_, rfl⟩
                obtain ⟨p2, hp2⟩ : ∃ p2, p2 = (Utf8.decode s k).2 := ⟨_, rfl⟩
                rw [← hr] at hdh
                rw [← hr, ← hp2] at hnx
                clear hr hp2
                have n95 : (((r : Nat) : Int) != 95) = true := by rw [bne_iff_ne]; omega
                have d57 : decide (((r : Nat) : Int) ≤ 57) = false := decide_eq_false (by omega)
                have d90 : decide (((r : Nat) : Int) ≤ 90) = false := decide_eq_false (by omega)
                have d122 : decide (((r : Nat) : Int) ≤ 122) = false := decide_eq_false (by omega)
                go_wp2_with fail
                go_ret
                exact ⟨by rw [HO.out]; rfl, (Below.refl _ _).alloc (Nat.le_refl _) _⟩
            · have hnx : ∀ ty, (Instr.next (.pointer (some ⟨w.heap.size, 0, none⟩)) true ty).run Tryd.prog (w.iter s k) = _ := fun ty => run_next_end w s k ty hlt
              have hp : plainB s = true := by
                rw [plain_iff]
                exact fun i hi his => hok i (by omega) his
              go_wp2_with fail
              go_ret
              exact ⟨by rw [hp]; rfl, (Below.refl _ _).alloc (Nat.le_refl _) _⟩
        · have e1 : decide ((48 : Int) ≤ ((s[0].toNat : Nat) : Int)) = false := decide_eq_false (by omega)
          go_enter Tryd.func42, Tryd.ntmps42
          go_wp2_with fail
          go_loopw [4, 5] (fun _ _ wr => ∃ k : Nat, k ≤ s.size ∧ wr = w.iter s k ∧ okTo s k) (fun _ _ wr => s.size - wr.iterPos w.heap.size)
          case atStart => exact ⟨0, Nat.zero_le _, rfl, fun i hi => by omega⟩
          case round =>
            obtain ⟨k, hk, rfl, hok⟩ := hrel
            have HB := Lib.hid (((Below.refl w.heap.size w).alloc (Nat.le_refl _) (Obj.stringIter s k)))
            clear e1
            by_cases hlt : k < s.size
            · by_cases h128 : s[k].toNat < 128
              · have hnx : ∀ ty, (Instr.next (.pointer (some ⟨w.heap.size, 0, none⟩)) true ty).run Tryd.prog (w.iter s k) = _ := fun ty => run_next_ascii w s k ty hlt h128
                have hb := okB_okN s[k]
                rcases okN_class s[k].toNat with ⟨ho, hc⟩ | ⟨ho, hc⟩
                · rw [ho] at hb
                  have HO := Lib.hid hb
                  clear ho hb
                  rcases hc with ⟨hc1, hc2⟩ | ⟨hc1, hc2⟩ | ⟨hc1, hc2⟩ | hc1
                  all_goals
                    try have n95 : (((s[k].toNat : Nat) : Int) != 95) = false := by simp; omega
                    go_wp2_with fail
                    go_roundw
                    case rel => exact ⟨k + 1, by omega, rfl, okTo_succ hok hlt HO.out⟩
                    case measure => simp; omega
                · rw [ho] at hb
                  have HO := Lib.hid (plain_not hlt hb)
                  clear ho hb
                  rcases hc with hc1 | ⟨hc1, hc2⟩ | ⟨hc1, hc2⟩ | ⟨hc1, hc2⟩ | hc1
                  all_goals
                    have n95 : (((s[k].toNat : Nat) : Int) != 95) = true := by rw [bne_iff_ne]; omega
                    try have d57 : decide (((s[k].toNat : Nat) : Int) ≤ 57) = false := decide_eq_false (by omega)
                    try have d90 : decide (((s[k].toNat : Nat) : Int) ≤ 90) = false := decide_eq_false (by omega)
                    try have d122 : decide (((s[k].toNat : Nat) : Int) ≤ 122) = false := decide_eq_false (by omega)
                    go_wp2_with fail
                    go_ret
                    exact ⟨by rw [HO.out]; rfl, (Below.refl _ _).alloc (Nat.le_refl _) _⟩
              · have hnx : ∀ ty, (Instr.next (.pointer (some ⟨w.heap.size, 0, none⟩)) true ty).run Tryd.prog (w.iter s k) = _ := fun ty => run_next_any w s k ty hlt
                have hdh := (decode_high s k hlt (by omega)).1
                have hb : okB s[k] = false := by
                  rw [okB_okN]
                  rcases okN_class s[k].toNat with ⟨_, hc⟩ | ⟨ho, _⟩
                  · omega
                  · exact ho
                have HO := Lib.hid (plain_not hlt hb)
                clear hb
                obtain ⟨r, hr⟩ : ∃ r, r = (Utf8.decode s k).1 := ⟨_, rfl⟩
                obtain ⟨p2, hp2⟩ : ∃ p2, p2 = (Utf8.decode s k).2 := ⟨_, rfl⟩
                rw [← hr] at hdh
                rw [← hr, ← hp2] at hnx
                clear hr hp2
                have n95 : (((r : Nat) : Int) != 95) = true := by rw [bne_iff_ne]; omega
                have d57 : decide (((r : Nat) : Int) ≤ 57) = false := decide_eq_false (by omega)
                have d90 : decide (((r : Nat) : Int) ≤ 90) = false := decide_eq_false (by omega)
                have d122 : decide (((r : Nat) : Int) ≤ 122) = false := decide_eq_false (by omega)
                go_wp2_with fail
                go_ret
                exact ⟨by rw [HO.out]; rfl, (Below.refl _ _).alloc (Nat.le_refl _) _⟩
            · have hnx : ∀ ty, (Instr.next (.pointer (some ⟨w.heap.size, 0, none⟩)) true ty).run Tryd.prog (w.iter s k) = _ := fun ty => run_next_end w s k ty hlt
              have hp : plainB s = true := by
                rw [plain_iff]
                exact fun i hi his => hok i (by omega) his
              go_wp2_with fail
              go_ret
              exact ⟨by rw [hp]; rfl, (Below.refl _ _).alloc (Nat.le_refl _) _⟩
    · have hn : nameB s = false := by unfold nameB; simp [h64]
      have d64 : decide (64 < ((s.size : Nat) : Int)) = true := decide_eq_true (by omega)
      rw [hn]
      clear hn
      go_enter Tryd.func42, Tryd.ntmps42
      go_wp2_with fail
      go_ret
      exact ⟨rfl, Below.refl _ _⟩
end Go.Proofs.YtlicnadbccjbjaaDoor
