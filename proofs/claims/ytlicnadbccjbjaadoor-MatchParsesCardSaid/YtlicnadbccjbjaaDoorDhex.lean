/- What the reference's hex and word answer. Conditions: texts of at most 10^6 bytes. -/
import Derived.Test.YtlicnadbccjbjaaDoorDword
import Derived.Test.YtlicnadbccjbjaaDoorName
namespace Go.Proofs.YtlicnadbccjbjaaDoor
open Go.RowKit LB

theorem hexI_num : ∀ n : Fin 256, hexI (UInt8.ofNat n.val) = (if 48 ≤ n.val ∧ n.val ≤ 57 then (n.val : Int) - 48 else if 97 ≤ n.val ∧ n.val ≤ 102 then (n.val : Int) - 87 else -1) := by decide +kernel
theorem hexI_val (c : UInt8) : hexI c = (if 48 ≤ c.toNat ∧ c.toNat ≤ 57 then (c.toNat : Int) - 48 else if 97 ≤ c.toNat ∧ c.toNat ≤ 102 then (c.toNat : Int) - 87 else -1) := by
  have h := hexI_num ⟨c.toNat, c.toNat_lt⟩
  simpa using h

set_option maxRecDepth 100000 in
theorem hex46 (c : UInt8) (w : World) : Calls Tryd.prog 46 #[.int .u8 (c.toNat : Int)] w fun e w' => e = .returned (.int .i64 (hexI c)) ∧ w' = w := by
  have hv := hexI_val c
  have hlt : c.toNat < 256 := c.toNat_lt
  obtain ⟨n, hn⟩ : ∃ n, n = c.toNat := ⟨_, rfl⟩
  rw [← hn] at hv hlt
  rw [hv, ← hn]
  clear hv hn
  by_cases h48 : n < 48
  · rw [if_neg (by omega), if_neg (by omega)]
    have d1 : decide (48 ≤ (n : Int)) = false := decide_eq_false (by omega)
    have d2 : decide (97 ≤ (n : Int)) = false := decide_eq_false (by omega)
    go_enter Tryd.func46, Tryd.ntmps46
    go_wp2_with fail
    go_ret
    exact ⟨rfl, rfl⟩
  · by_cases h57 : n ≤ 57
    · rw [if_pos (by omega)]
      have d1 : decide (48 ≤ (n : Int)) = true := decide_eq_true (by omega)
      have d2 : decide ((n : Int) ≤ 57) = true := decide_eq_true (by omega)
      have m1 : ((n : Int) - 48) % 256 = (n : Int) - 48 := by omega
      go_enter Tryd.func46, Tryd.ntmps46
      go_wp2_with fail
      go_ret
      exact ⟨rfl, rfl⟩
    · rw [if_neg (by omega)]
      have d1 : decide (48 ≤ (n : Int)) = true := decide_eq_true (by omega)
      have d2 : decide ((n : Int) ≤ 57) = false := decide_eq_false (by omega)
      by_cases h97 : n < 97
      · rw [if_neg (by omega)]
        have d3 : decide (97 ≤ (n : Int)) = false := decide_eq_false (by omega)
        go_enter Tryd.func46, Tryd.ntmps46
        go_wp2_with fail
        go_ret
        exact ⟨rfl, rfl⟩
      · have d3 : decide (97 ≤ (n : Int)) = true := decide_eq_true (by omega)
        by_cases h102 : n ≤ 102
        · rw [if_pos (by omega)]
          have d4 : decide ((n : Int) ≤ 102) = true := decide_eq_true (by omega)
          have m1 : ((n : Int) - 97) % 256 = (n : Int) - 97 := by omega
          have m2 : (n : Int) - 97 + 10 = (n : Int) - 87 := by omega
          go_enter Tryd.func46, Tryd.ntmps46
          go_wp2_with fail
          go_ret
          exact ⟨rfl, rfl⟩
        · rw [if_neg (by omega)]
          have d4 : decide ((n : Int) ≤ 102) = false := decide_eq_false (by omega)
          go_enter Tryd.func46, Tryd.ntmps46
          go_wp2_with fail
          go_ret
          exact ⟨rfl, rfl⟩

/-- One byte of a text. -/
theorem plain_one {s : ByteArray} {n : Nat} (h : n < s.size) : plainB (s.extract n (n + 1)) = okB s[n] := by
  unfold plainB
  rw [Lib.extract_eq]
  have hd : s.data.toList.drop n = s[n] :: s.data.toList.drop (n + 1) := by
    rw [List.drop_eq_getElem_cons (by simpa using h)]; rfl
  simp [hd]
/-- The bytes from a to n are those of names. -/
def okFrom (s : ByteArray) (a n : Nat) : Prop := ∀ i, a ≤ i → i < n → ∀ h : i < s.size, okB s[i] = true
theorem word_from {s : ByteArray} {a n : Nat} (ha : a ≤ n) (hn : n ≤ s.size) (ho : okFrom s a n) (hs : n = s.size ∨ ∃ h : n < s.size, okB s[n] = false) :
    (s.data.toList.drop a).takeWhile okB = (s.data.toList.drop a).take (n - a) ∧ (s.data.toList.drop a).dropWhile okB = s.data.toList.drop n := by
  have e : s.data.toList.drop a = (s.data.toList.drop a).take (n - a) ++ s.data.toList.drop n := by
    have : s.data.toList.drop n = (s.data.toList.drop a).drop (n - a) := by rw [List.drop_drop]; congr 1; omega
    rw [this, List.take_append_drop]
  have hall : ((s.data.toList.drop a).take (n - a)).all okB = true := by
    rw [List.all_eq_true]
    intro x hx
    obtain ⟨i, hi, rfl⟩ := List.mem_iff_getElem.1 hx
    simp only [List.length_take, List.length_drop, Array.length_toList] at hi
    have := ho (a + i) (by omega) (by omega) (by omega)
    simp
    exact this
  rcases hs with hs | ⟨hlt, hb⟩
  · have hd : s.data.toList.drop n = [] := List.drop_eq_nil_of_le (by rw [hs]; simp)
    rw [hd, List.append_nil] at e
    rw [← e, hd]
    rw [← e] at hall
    exact all_while hall
  · have hd : s.data.toList.drop n = s[n] :: s.data.toList.drop (n + 1) := by
      rw [List.drop_eq_getElem_cons (by simpa using hlt)]; rfl
    have := word_take (r := s.data.toList.drop (n + 1)) hall hb
    rw [← hd, ← e] at this
    exact this
theorem cut_mid (s : ByteArray) (a n : Nat) : s.extract a n = bs ((s.data.toList.drop a).take (n - a)) := by rw [Lib.extract_eq]; rfl

theorem word_fin {s : ByteArray} {a n : Nat} (ha : a ≤ n) (hn : n ≤ s.size) (ho : okFrom s a n) (hs : n = s.size ∨ ∃ h : n < s.size, okB s[n] = false) : s.extract a n = bs ((s.data.toList.drop a).takeWhile okB) := by
  rw [(word_from ha hn ho hs).1, cut_mid]

set_option maxRecDepth 100000 in
set_option maxHeartbeats 2000000 in
theorem word32 (s : ByteArray) (a : Nat) (w : World) (ha : a ≤ s.size) (hs : s.size ≤ 1000000) :
    Calls Tryd.prog 32 #[.string s, .int .i64 a] w fun e w' => e = .returned (.string (bs ((s.data.toList.drop a).takeWhile okB))) ∧ w' = w := by
  go_enter Tryd.func32, Tryd.ntmps32
  go_wp2_with fail
  go_loopw [5] (fun i wr => ∃ n : Nat, a ≤ n ∧ n ≤ s.size ∧ i = .int .i64 n ∧ wr = w ∧ okFrom s a n) (fun i _ => s.size - (intOf i).toNat)
  case atStart => exact ⟨a, Nat.le_refl _, ha, rfl, rfl, fun i h1 h2 => by omega⟩
  case round =>
    obtain ⟨n, han, hn, rfl, rfl, hok⟩ := hrel
    have z0 : (0 : Int) ≤ (a : Int) := by omega
    have z1 : (a : Int) ≤ (n : Int) := by omega
    have z2 : (n : Int) ≤ (s.size : Int) := by omega
    have z3 : (0 : Int) ≤ (n : Int) := by omega
    by_cases hlt : n < s.size
    · have hpl := plain_any (s.extract n (n + 1)) wr (by rw [cut_mid, bs_size, List.length_take]; omega)
      rw [plain_one hlt] at hpl
      have z4 : (n : Int) ≤ (n : Int) + 1 := by omega
      have z5 : (n : Int) + 1 ≤ (s.size : Int) := by omega
      cases hb : okB s[n] with
      | false =>
        rw [hb] at hpl
        have HF := Lib.hid (word_fin han hn hok (.inr ⟨hlt, hb⟩))
        have HPL := Lib.hid hpl
        clear hpl hb
        go_wp2_with fail
        refine HPL.out.mono ?_
        rintro e w2 ⟨rfl, hw2⟩; rw [hw2]; clear hw2 w2
        go_wp2_with fail
        go_ret
        exact ⟨congrArg (fun t => Ending.returned (.string t)) HF.out, rfl⟩
      | true =>
        rw [hb] at hpl
        have HPL := Lib.hid hpl
        have HB := Lib.hid hb
        clear hpl hb
        go_wp2_with fail
        refine HPL.out.mono ?_
        rintro e w2 ⟨rfl, hw2⟩; rw [hw2]; clear hw2 w2
        go_wp2_with fail
        go_roundw
        case rel =>
          refine ⟨n + 1, by omega, by omega, by go_num, by trivial, fun i h1 h2 h => ?_⟩
          by_cases e : i = n
          · subst e; exact HB.out
          · exact hok i h1 (by omega) h
        case measure => simp [intOf]; omega
    · obtain rfl : n = s.size := by omega
      have HF := Lib.hid (word_fin han hn hok (.inl rfl))
      go_wp2_with fail
      go_ret
      exact ⟨congrArg (fun t => Ending.returned (.string t)) HF.out, rfl⟩
end Go.Proofs.YtlicnadbccjbjaaDoor
