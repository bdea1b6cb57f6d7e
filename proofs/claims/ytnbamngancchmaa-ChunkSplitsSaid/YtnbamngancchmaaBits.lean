/- Plain law: bits, bytes, and the codes of chapter 4 and 6, in lists and integers alone (no program in sight). No conditions. -/
import Derived.RowKit
namespace Go.Proofs.Ytnbamngancchmaa
open Go.RowKit (wrap64)
namespace PB

def ibit (v : Int) (i : Nat) : Bool := decide (v / 2 ^ i % 2 = 1)
def putBits (v : Int) : Nat → List Bool
  | 0 => []
  | n + 1 => ibit v n :: putBits v n
theorem putBits_length (v : Int) (n : Nat) : (putBits v n).length = n := by
  induction n with
  | zero => rfl
  | succ n ih => simp [putBits, ih]

def b2n (b : Bool) : Nat := if b then 1 else 0
theorem b2n_lt (b : Bool) : b2n b < 2 := by cases b <;> decide
def gb (bs : List Bool) (i : Nat) : Nat := b2n (bs.getD i false)
theorem gb_lt (bs : List Bool) (i : Nat) : gb bs i < 2 := b2n_lt _
def byteAt (bs : List Bool) (i : Nat) : Nat :=
  gb bs (8 * i) * 128 + gb bs (8 * i + 1) * 64 + gb bs (8 * i + 2) * 32 + gb bs (8 * i + 3) * 16 +
    gb bs (8 * i + 4) * 8 + gb bs (8 * i + 5) * 4 + gb bs (8 * i + 6) * 2 + gb bs (8 * i + 7)
theorem byteAt_lt (bs : List Bool) (i : Nat) : byteAt bs i < 256 := by
  have h0 := gb_lt bs (8 * i); have h1 := gb_lt bs (8 * i + 1); have h2 := gb_lt bs (8 * i + 2); have h3 := gb_lt bs (8 * i + 3)
  have h4 := gb_lt bs (8 * i + 4); have h5 := gb_lt bs (8 * i + 5); have h6 := gb_lt bs (8 * i + 6); have h7 := gb_lt bs (8 * i + 7)
  unfold byteAt; omega
def bytesN (bs : List Bool) (n : Nat) : List Nat := (List.range n).map (byteAt bs)
def bytesOf (bs : List Bool) : List Nat := bytesN bs ((bs.length + 7) / 8)
theorem bytesN_length (bs : List Bool) (n : Nat) : (bytesN bs n).length = n := by simp [bytesN]
theorem bytesOf_length (bs : List Bool) : (bytesOf bs).length = (bs.length + 7) / 8 := bytesN_length _ _
theorem bytesOf_lt (bs : List Bool) : ∀ x ∈ bytesOf bs, x < 256 := by
  intro x hx
  simp only [bytesOf, bytesN, List.mem_map] at hx
  obtain ⟨i, _, rfl⟩ := hx
  exact byteAt_lt _ _

theorem gb_snoc_lt {bs : List Bool} {b : Bool} {i : Nat} (h : i < bs.length) : gb (bs ++ [b]) i = gb bs i := by
  simp [gb, List.getD, List.getElem?_append_left h]
theorem gb_snoc_eq (bs : List Bool) (b : Bool) : gb (bs ++ [b]) bs.length = b2n b := by
  simp [gb, List.getD]
theorem gb_ge {bs : List Bool} {i : Nat} (h : bs.length ≤ i) : gb bs i = 0 := by
  simp [gb, List.getD, List.getElem?_eq_none h, b2n]
theorem gb_snoc_gt {bs : List Bool} {b : Bool} {i : Nat} (h : bs.length < i) : gb (bs ++ [b]) i = 0 := gb_ge (by simp; omega)

theorem byteAt_snoc_lt {bs : List Bool} {b : Bool} {i : Nat} (h : i < bs.length / 8) : byteAt (bs ++ [b]) i = byteAt bs i := by
  unfold byteAt
  rw [gb_snoc_lt (by omega), gb_snoc_lt (by omega), gb_snoc_lt (by omega), gb_snoc_lt (by omega), gb_snoc_lt (by omega), gb_snoc_lt (by omega), gb_snoc_lt (by omega), gb_snoc_lt (by omega)]

theorem bit_eq {x : Nat} (h : x < 2) : x = 0 ∨ x = 1 := by omega

theorem byteAt_snoc (bs : List Bool) (b : Bool) : byteAt (bs ++ [b]) (bs.length / 8) = byteAt bs (bs.length / 8) ||| b2n b * 2 ^ (7 - bs.length % 8) := by
  obtain ⟨q, r, hr, hl⟩ : ∃ q r, r < 8 ∧ bs.length = 8 * q + r := ⟨bs.length / 8, bs.length % 8, Nat.mod_lt _ (by omega), by omega⟩
  have hq : bs.length / 8 = q := by omega
  have hm : bs.length % 8 = r := by omega
  rw [hq, hm]
  have hb := bit_eq (b2n_lt b)
  have key : ∀ k, k < r → gb (bs ++ [b]) (8 * q + k) = gb bs (8 * q + k) := fun k hk => gb_snoc_lt (by omega)
  have keq : gb (bs ++ [b]) (8 * q + r) = b2n b := by rw [← hl]; exact gb_snoc_eq bs b
  have kgt : ∀ k, r < k → gb (bs ++ [b]) (8 * q + k) = 0 := fun k hk => gb_snoc_gt (by omega)
  have kge : ∀ k, r ≤ k → gb bs (8 * q + k) = 0 := fun k hk => gb_ge (by omega)
  unfold byteAt
  have c0 := bit_eq (gb_lt bs (8 * q)); have c1 := bit_eq (gb_lt bs (8 * q + 1)); have c2 := bit_eq (gb_lt bs (8 * q + 2)); have c3 := bit_eq (gb_lt bs (8 * q + 3))
  have c4 := bit_eq (gb_lt bs (8 * q + 4)); have c5 := bit_eq (gb_lt bs (8 * q + 5)); have c6 := bit_eq (gb_lt bs (8 * q + 6))
  obtain rfl | rfl | rfl | rfl | rfl | rfl | rfl | rfl : r = 0 ∨ r = 1 ∨ r = 2 ∨ r = 3 ∨ r = 4 ∨ r = 5 ∨ r = 6 ∨ r = 7 := by omega
  · rw [show gb (bs ++ [b]) (8 * q) = b2n b from keq, show gb (bs ++ [b]) (8 * q + 1) = 0 from kgt 1 (by omega), show gb (bs ++ [b]) (8 * q + 2) = 0 from kgt 2 (by omega), show gb (bs ++ [b]) (8 * q + 3) = 0 from kgt 3 (by omega), show gb (bs ++ [b]) (8 * q + 4) = 0 from kgt 4 (by omega), show gb (bs ++ [b]) (8 * q + 5) = 0 from kgt 5 (by omega), show gb (bs ++ [b]) (8 * q + 6) = 0 from kgt 6 (by omega), show gb (bs ++ [b]) (8 * q + 7) = 0 from kgt 7 (by omega), show gb bs (8 * q) = 0 from kge 0 (by omega), show gb bs (8 * q + 1) = 0 from kge 1 (by omega), show gb bs (8 * q + 2) = 0 from kge 2 (by omega), show gb bs (8 * q + 3) = 0 from kge 3 (by omega), show gb bs (8 * q + 4) = 0 from kge 4 (by omega), show gb bs (8 * q + 5) = 0 from kge 5 (by omega), show gb bs (8 * q + 6) = 0 from kge 6 (by omega), show gb bs (8 * q + 7) = 0 from kge 7 (by omega)]
    rcases hb with h | h <;> rw [h] <;> rfl
  · rw [show gb (bs ++ [b]) (8 * q) = gb bs (8 * q) from key 0 (by omega), show gb (bs ++ [b]) (8 * q + 1) = b2n b from keq, show gb (bs ++ [b]) (8 * q + 2) = 0 from kgt 2 (by omega), show gb (bs ++ [b]) (8 * q + 3) = 0 from kgt 3 (by omega), show gb (bs ++ [b]) (8 * q + 4) = 0 from kgt 4 (by omega), show gb (bs ++ [b]) (8 * q + 5) = 0 from kgt 5 (by omega), show gb (bs ++ [b]) (8 * q + 6) = 0 from kgt 6 (by omega), show gb (bs ++ [b]) (8 * q + 7) = 0 from kgt 7 (by omega), show gb bs (8 * q + 1) = 0 from kge 1 (by omega), show gb bs (8 * q + 2) = 0 from kge 2 (by omega), show gb bs (8 * q + 3) = 0 from kge 3 (by omega), show gb bs (8 * q + 4) = 0 from kge 4 (by omega), show gb bs (8 * q + 5) = 0 from kge 5 (by omega), show gb bs (8 * q + 6) = 0 from kge 6 (by omega), show gb bs (8 * q + 7) = 0 from kge 7 (by omega)]
    rcases c0 with c0 | c0 <;> rcases hb with h | h <;> rw [h, c0] <;> rfl
  · rw [show gb (bs ++ [b]) (8 * q) = gb bs (8 * q) from key 0 (by omega), show gb (bs ++ [b]) (8 * q + 1) = gb bs (8 * q + 1) from key 1 (by omega), show gb (bs ++ [b]) (8 * q + 2) = b2n b from keq, show gb (bs ++ [b]) (8 * q + 3) = 0 from kgt 3 (by omega), show gb (bs ++ [b]) (8 * q + 4) = 0 from kgt 4 (by omega), show gb (bs ++ [b]) (8 * q + 5) = 0 from kgt 5 (by omega), show gb (bs ++ [b]) (8 * q + 6) = 0 from kgt 6 (by omega), show gb (bs ++ [b]) (8 * q + 7) = 0 from kgt 7 (by omega), show gb bs (8 * q + 2) = 0 from kge 2 (by omega), show gb bs (8 * q + 3) = 0 from kge 3 (by omega), show gb bs (8 * q + 4) = 0 from kge 4 (by omega), show gb bs (8 * q + 5) = 0 from kge 5 (by omega), show gb bs (8 * q + 6) = 0 from kge 6 (by omega), show gb bs (8 * q + 7) = 0 from kge 7 (by omega)]
    rcases c0 with c0 | c0 <;> rcases c1 with c1 | c1 <;> rcases hb with h | h <;> rw [h, c0, c1] <;> rfl
  · rw [show gb (bs ++ [b]) (8 * q) = gb bs (8 * q) from key 0 (by omega), show gb (bs ++ [b]) (8 * q + 1) = gb bs (8 * q + 1) from key 1 (by omega), show gb (bs ++ [b]) (8 * q + 2) = gb bs (8 * q + 2) from key 2 (by omega), show gb (bs ++ [b]) (8 * q + 3) = b2n b from keq, show gb (bs ++ [b]) (8 * q + 4) = 0 from kgt 4 (by omega), show gb (bs ++ [b]) (8 * q + 5) = 0 from kgt 5 (by omega), show gb (bs ++ [b]) (8 * q + 6) = 0 from kgt 6 (by omega), show gb (bs ++ [b]) (8 * q + 7) = 0 from kgt 7 (by omega), show gb bs (8 * q + 3) = 0 from kge 3 (by omega), show gb bs (8 * q + 4) = 0 from kge 4 (by omega), show gb bs (8 * q + 5) = 0 from kge 5 (by omega), show gb bs (8 * q + 6) = 0 from kge 6 (by omega), show gb bs (8 * q + 7) = 0 from kge 7 (by omega)]
    rcases c0 with c0 | c0 <;> rcases c1 with c1 | c1 <;> rcases c2 with c2 | c2 <;> rcases hb with h | h <;> rw [h, c0, c1, c2] <;> rfl
  · rw [show gb (bs ++ [b]) (8 * q) = gb bs (8 * q) from key 0 (by omega), show gb (bs ++ [b]) (8 * q + 1) = gb bs (8 * q + 1) from key 1 (by omega), show gb (bs ++ [b]) (8 * q + 2) = gb bs (8 * q + 2) from key 2 (by omega), show gb (bs ++ [b]) (8 * q + 3) = gb bs (8 * q + 3) from key 3 (by omega), show gb (bs ++ [b]) (8 * q + 4) = b2n b from keq, show gb (bs ++ [b]) (8 * q + 5) = 0 from kgt 5 (by omega), show gb (bs ++ [b]) (8 * q + 6) = 0 from kgt 6 (by omega), show gb (bs ++ [b]) (8 * q + 7) = 0 from kgt 7 (by omega), show gb bs (8 * q + 4) = 0 from kge 4 (by omega), show gb bs (8 * q + 5) = 0 from kge 5 (by omega), show gb bs (8 * q + 6) = 0 from kge 6 (by omega), show gb bs (8 * q + 7) = 0 from kge 7 (by omega)]
    rcases c0 with c0 | c0 <;> rcases c1 with c1 | c1 <;> rcases c2 with c2 | c2 <;> rcases c3 with c3 | c3 <;> rcases hb with h | h <;> rw [h, c0, c1, c2, c3] <;> rfl
  · rw [show gb (bs ++ [b]) (8 * q) = gb bs (8 * q) from key 0 (by omega), show gb (bs ++ [b]) (8 * q + 1) = gb bs (8 * q + 1) from key 1 (by omega), show gb (bs ++ [b]) (8 * q + 2) = gb bs (8 * q + 2) from key 2 (by omega), show gb (bs ++ [b]) (8 * q + 3) = gb bs (8 * q + 3) from key 3 (by omega), show gb (bs ++ [b]) (8 * q + 4) = gb bs (8 * q + 4) from key 4 (by omega), show gb (bs ++ [b]) (8 * q + 5) = b2n b from keq, show gb (bs ++ [b]) (8 * q + 6) = 0 from kgt 6 (by omega), show gb (bs ++ [b]) (8 * q + 7) = 0 from kgt 7 (by omega), show gb bs (8 * q + 5) = 0 from kge 5 (by omega), show gb bs (8 * q + 6) = 0 from kge 6 (by omega), show gb bs (8 * q + 7) = 0 from kge 7 (by omega)]
    rcases c0 with c0 | c0 <;> rcases c1 with c1 | c1 <;> rcases c2 with c2 | c2 <;> rcases c3 with c3 | c3 <;> rcases c4 with c4 | c4 <;> rcases hb with h | h <;> rw [h, c0, c1, c2, c3, c4] <;> rfl
  · rw [show gb (bs ++ [b]) (8 * q) = gb bs (8 * q) from key 0 (by omega), show gb (bs ++ [b]) (8 * q + 1) = gb bs (8 * q + 1) from key 1 (by omega), show gb (bs ++ [b]) (8 * q + 2) = gb bs (8 * q + 2) from key 2 (by omega), show gb (bs ++ [b]) (8 * q + 3) = gb bs (8 * q + 3) from key 3 (by omega), show gb (bs ++ [b]) (8 * q + 4) = gb bs (8 * q + 4) from key 4 (by omega), show gb (bs ++ [b]) (8 * q + 5) = gb bs (8 * q + 5) from key 5 (by omega), show gb (bs ++ [b]) (8 * q + 6) = b2n b from keq, show gb (bs ++ [b]) (8 * q + 7) = 0 from kgt 7 (by omega), show gb bs (8 * q + 6) = 0 from kge 6 (by omega), show gb bs (8 * q + 7) = 0 from kge 7 (by omega)]
    rcases c0 with c0 | c0 <;> rcases c1 with c1 | c1 <;> rcases c2 with c2 | c2 <;> rcases c3 with c3 | c3 <;> rcases c4 with c4 | c4 <;> rcases c5 with c5 | c5 <;> rcases hb with h | h <;> rw [h, c0, c1, c2, c3, c4, c5] <;> rfl
  · rw [show gb (bs ++ [b]) (8 * q) = gb bs (8 * q) from key 0 (by omega), show gb (bs ++ [b]) (8 * q + 1) = gb bs (8 * q + 1) from key 1 (by omega), show gb (bs ++ [b]) (8 * q + 2) = gb bs (8 * q + 2) from key 2 (by omega), show gb (bs ++ [b]) (8 * q + 3) = gb bs (8 * q + 3) from key 3 (by omega), show gb (bs ++ [b]) (8 * q + 4) = gb bs (8 * q + 4) from key 4 (by omega), show gb (bs ++ [b]) (8 * q + 5) = gb bs (8 * q + 5) from key 5 (by omega), show gb (bs ++ [b]) (8 * q + 6) = gb bs (8 * q + 6) from key 6 (by omega), show gb (bs ++ [b]) (8 * q + 7) = b2n b from keq, show gb bs (8 * q + 7) = 0 from kge 7 (by omega)]
    rcases c0 with c0 | c0 <;> rcases c1 with c1 | c1 <;> rcases c2 with c2 | c2 <;> rcases c3 with c3 | c3 <;> rcases c4 with c4 | c4 <;> rcases c5 with c5 | c5 <;> rcases c6 with c6 | c6 <;> rcases hb with h | h <;> rw [h, c0, c1, c2, c3, c4, c5, c6] <;> rfl

theorem byteAt_ge {bs : List Bool} {i : Nat} (h : bs.length ≤ 8 * i) : byteAt bs i = 0 := by
  unfold byteAt
  rw [gb_ge (by omega), gb_ge (by omega), gb_ge (by omega), gb_ge (by omega), gb_ge (by omega), gb_ge (by omega), gb_ge (by omega), gb_ge (by omega)]

/-- The row of a writer in the middle of a Put: a byte is there for the next bit. -/
theorem bytesN_room (bs : List Bool) : bytesN bs (bs.length / 8 + 1) = if bs.length % 8 = 0 then bytesOf bs ++ [0] else bytesOf bs := by
  split
  · rename_i h
    have e : (bs.length + 7) / 8 = bs.length / 8 := by omega
    unfold bytesOf; rw [e]; unfold bytesN
    rw [List.range_succ, List.map_append, List.map_cons, List.map_nil, byteAt_ge (by omega)]
  · rename_i h
    have e : (bs.length + 7) / 8 = bs.length / 8 + 1 := by omega
    unfold bytesOf; rw [e]
theorem bytesN_set (bs : List Bool) (b : Bool) (n : Nat) : (bytesN bs n).set (bs.length / 8) (byteAt bs (bs.length / 8) ||| b2n b * 2 ^ (7 - bs.length % 8)) = bytesN (bs ++ [b]) n := by
  apply List.ext_getElem
  · simp [bytesN]
  · intro i h1 h2
    simp only [List.getElem_set, bytesN, List.getElem_map, List.getElem_range]
    split
    · rename_i h; subst h; rw [byteAt_snoc]
    · rename_i h
      rcases Nat.lt_or_ge i (bs.length / 8) with hlt | hge
      · rw [byteAt_snoc_lt hlt]
      · rw [byteAt_ge (by omega), byteAt_ge (by simp; omega)]
theorem bytesOf_snoc (bs : List Bool) (b : Bool) : (bytesN bs (bs.length / 8 + 1)).set (bs.length / 8) (byteAt bs (bs.length / 8) ||| b2n b * 2 ^ (7 - bs.length % 8)) = bytesOf (bs ++ [b]) := by
  rw [bytesN_set bs b _]
  unfold bytesOf
  congr 1
  simp; omega

/-! ### reading bits -/
def rbit (l : List Nat) (p : Nat) : Nat := l.getD (p / 8) 0 / 2 ^ (7 - p % 8) % 2
theorem rbit_lt (l : List Nat) (p : Nat) : rbit l p < 2 := Nat.mod_lt _ (by omega)
def bitsOf (l : List Nat) : List Bool := (List.range (8 * l.length)).map fun p => decide (rbit l p = 1)
theorem bitsOf_length (l : List Nat) : (bitsOf l).length = 8 * l.length := by simp [bitsOf]
theorem bitsOf_get (l : List Nat) (p : Nat) (h : p < (bitsOf l).length) : (bitsOf l)[p] = decide (rbit l p = 1) := by simp [bitsOf]

theorem rbit_bytesOf {bs : List Bool} {p : Nat} (h : p < bs.length) : rbit (bytesOf bs) p = gb bs p := by
  have hi : p / 8 < (bs.length + 7) / 8 := by omega
  have e : (bytesOf bs).getD (p / 8) 0 = byteAt bs (p / 8) := by
    simp [bytesOf, bytesN, List.getD, hi]
  unfold rbit; rw [e]
  obtain ⟨q, r, hr, rfl⟩ : ∃ q r, r < 8 ∧ p = 8 * q + r := ⟨p / 8, p % 8, Nat.mod_lt _ (by omega), by omega⟩
  have hq : (8 * q + r) / 8 = q := by omega
  have hm : (8 * q + r) % 8 = r := by omega
  rw [hq, hm]
  have h0 := gb_lt bs (8 * q); have h1 := gb_lt bs (8 * q + 1); have h2 := gb_lt bs (8 * q + 2); have h3 := gb_lt bs (8 * q + 3)
  have h4 := gb_lt bs (8 * q + 4); have h5 := gb_lt bs (8 * q + 5); have h6 := gb_lt bs (8 * q + 6); have h7 := gb_lt bs (8 * q + 7)
  unfold byteAt
  obtain rfl | rfl | rfl | rfl | rfl | rfl | rfl | rfl : r = 0 ∨ r = 1 ∨ r = 2 ∨ r = 3 ∨ r = 4 ∨ r = 5 ∨ r = 6 ∨ r = 7 := by omega
  all_goals (simp only [Nat.add_zero, Nat.reduceSub, Nat.reducePow]; omega)
theorem bitsOf_bytesOf (bs : List Bool) : ∃ n, bitsOf (bytesOf bs) = bs ++ List.replicate n false := by
  refine ⟨8 * ((bs.length + 7) / 8) - bs.length, ?_⟩
  apply List.ext_getElem
  · simp [bitsOf_length, bytesOf_length]; omega
  · intro p h1 h2
    rw [bitsOf_get]
    rcases Nat.lt_or_ge p bs.length with h | h
    · rw [rbit_bytesOf h, List.getElem_append_left h]
      simp only [gb, List.getD, List.getElem?_eq_getElem h, Option.getD_some]
      cases bs[p] <;> rfl
    · rw [List.getElem_append_right h, List.getElem_replicate]
      have hp : p < 8 * ((bs.length + 7) / 8) := by rw [bitsOf_length, bytesOf_length] at h1; exact h1
      have hi : p / 8 < (bs.length + 7) / 8 := by omega
      have e : (bytesOf bs).getD (p / 8) 0 = byteAt bs (p / 8) := by simp [bytesOf, bytesN, List.getD, hi]
      unfold rbit; rw [e]
      have hge : gb bs p = 0 := gb_ge h
      obtain ⟨q, r, hr, rfl⟩ : ∃ q r, r < 8 ∧ p = 8 * q + r := ⟨p / 8, p % 8, Nat.mod_lt _ (by omega), by omega⟩
      have hq : (8 * q + r) / 8 = q := by omega
      have hm : (8 * q + r) % 8 = r := by omega
      rw [hq, hm]
      have h0 := gb_lt bs (8 * q); have h1 := gb_lt bs (8 * q + 1); have h2 := gb_lt bs (8 * q + 2); have h3 := gb_lt bs (8 * q + 3)
      have h4 := gb_lt bs (8 * q + 4); have h5 := gb_lt bs (8 * q + 5); have h6 := gb_lt bs (8 * q + 6); have h7 := gb_lt bs (8 * q + 7)
      have : byteAt bs q / 2 ^ (7 - r) % 2 = gb bs (8 * q + r) := by
        unfold byteAt
        obtain rfl | rfl | rfl | rfl | rfl | rfl | rfl | rfl : r = 0 ∨ r = 1 ∨ r = 2 ∨ r = 3 ∨ r = 4 ∨ r = 5 ∨ r = 6 ∨ r = 7 := by omega
        all_goals (simp only [Nat.add_zero, Nat.reduceSub, Nat.reducePow]; omega)
      rw [this, hge]; rfl

/-! ### numbers of bits -/
def natOf (bs : List Bool) : Nat := bs.foldl (fun v b => 2 * v + b2n b) 0
theorem natOf_snoc (bs : List Bool) (b : Bool) : natOf (bs ++ [b]) = 2 * natOf bs + b2n b := by simp [natOf]
theorem natOf_from (bs : List Bool) : ∀ v, bs.foldl (fun v b => 2 * v + b2n b) v = v * 2 ^ bs.length + natOf bs := by
  induction bs with
  | nil => intro v; simp [natOf]
  | cons b bs ih =>
    intro v
    simp only [List.foldl_cons, List.length_cons, natOf]
    rw [ih, ih (2 * 0 + b2n b), Nat.pow_succ]
    have : (2 * v + b2n b) * 2 ^ bs.length = v * (2 ^ bs.length * 2) + b2n b * 2 ^ bs.length := by
      rw [Nat.add_mul, Nat.mul_comm 2 v, Nat.mul_assoc, Nat.mul_comm 2]
    rw [this]; simp; omega
theorem natOf_cons (b : Bool) (bs : List Bool) : natOf (b :: bs) = b2n b * 2 ^ bs.length + natOf bs := by
  show bs.foldl _ (2 * 0 + b2n b) = _
  rw [natOf_from]; simp
theorem natOf_lt (bs : List Bool) : natOf bs < 2 ^ bs.length := by
  induction bs with
  | nil => simp [natOf]
  | cons b bs ih =>
    rw [natOf_cons, List.length_cons, Nat.pow_succ]
    have := b2n_lt b
    rcases bit_eq this with h | h <;> rw [h] <;> omega
theorem emod_two_pow (v : Int) (n : Nat) : v % 2 ^ (n + 1) = v / 2 ^ n % 2 * 2 ^ n + v % 2 ^ n := by
  have hp : (0 : Int) < 2 ^ n := Int.pow_pos (by omega)
  have h1 := Int.mul_ediv_add_emod v (2 ^ n)
  have h2 := Int.mul_ediv_add_emod (v / 2 ^ n) 2
  have h3 := Int.emod_nonneg v (b := 2 ^ n) (by omega)
  have h4 := Int.emod_lt_of_pos v hp
  have h5 := Int.emod_nonneg (v / 2 ^ n) (b := 2) (by omega)
  have h6 := Int.emod_lt_of_pos (v / 2 ^ n) (b := 2) (by omega)
  have e : v = (v / 2 ^ n % 2 * 2 ^ n + v % 2 ^ n) + 2 ^ (n + 1) * (v / 2 ^ n / 2) := by
    rw [Int.pow_succ]
    have : (2 ^ n : Int) * 2 * (v / 2 ^ n / 2) = 2 ^ n * (2 * (v / 2 ^ n / 2)) := by rw [Int.mul_assoc]
    rw [this]
    have h7 : (2 ^ n : Int) * (v / 2 ^ n) = 2 ^ n * (2 * (v / 2 ^ n / 2)) + 2 ^ n * (v / 2 ^ n % 2) := by rw [← Int.mul_add, h2]
    rw [Int.mul_comm (v / 2 ^ n % 2)]
    omega
  have hlt : v / 2 ^ n % 2 * 2 ^ n + v % 2 ^ n < 2 ^ (n + 1) := by
    rw [Int.pow_succ]
    have : v / 2 ^ n % 2 = 0 ∨ v / 2 ^ n % 2 = 1 := by omega
    rcases this with h | h <;> rw [h] <;> omega
  have hge : 0 ≤ v / 2 ^ n % 2 * 2 ^ n + v % 2 ^ n := by
    have : v / 2 ^ n % 2 = 0 ∨ v / 2 ^ n % 2 = 1 := by omega
    rcases this with h | h <;> rw [h] <;> omega
  conv => lhs; rw [e]
  rw [Int.add_mul_emod_self_left, Int.emod_eq_of_lt hge hlt]
theorem natOf_putBits (v : Int) (n : Nat) : (natOf (putBits v n) : Int) = v % 2 ^ n := by
  induction n with
  | zero => simp [putBits, natOf]
  | succ n ih =>
    rw [putBits, natOf_cons, putBits_length, emod_two_pow, Int.natCast_add, ih, Int.natCast_mul, Int.natCast_pow]
    have h5 := Int.emod_nonneg (v / 2 ^ n) (b := 2) (by omega)
    have h6 := Int.emod_lt_of_pos (v / 2 ^ n) (b := 2) (by omega)
    have : (b2n (ibit v n) : Int) = v / 2 ^ n % 2 := by
      unfold b2n ibit
      by_cases h : v / 2 ^ n % 2 = 1
      · simp [h]
      · simp [h]; omega
    rw [this]; rfl

/-- n bits from a place on, as a number. -/
def getAt (B : List Bool) (pos n : Nat) : Option Nat := if pos + n ≤ B.length then some (natOf ((B.drop pos).take n)) else none
theorem getAt_mid (A M C : List Bool) : getAt (A ++ (M ++ C)) A.length M.length = some (natOf M) := by
  unfold getAt
  rw [if_pos (by simp), List.drop_left, List.take_left]
theorem getAt_put (A C : List Bool) (v : Int) (n : Nat) : getAt (A ++ (putBits v n ++ C)) A.length n = some (v % 2 ^ n).toNat := by
  have h := getAt_mid A (putBits v n) C
  rw [putBits_length] at h
  rw [h]
  have := natOf_putBits v n
  congr 1
  omega
theorem getAt_lt {B : List Bool} {pos n v : Nat} (h : getAt B pos n = some v) : v < 2 ^ n ∧ pos + n ≤ B.length := by
  unfold getAt at h
  split at h
  · rename_i hl
    injection h with h
    subst h
    have := natOf_lt ((B.drop pos).take n)
    have e : ((B.drop pos).take n).length = n := by simp; omega
    rw [e] at this
    exact ⟨this, hl⟩
  · cases h

theorem wrap64_idem (a b : Int) : wrap64 (wrap64 a + b) = wrap64 (a + b) := by unfold wrap64; omega
theorem wrap64_in {a : Int} (h : -9223372036854775808 ≤ a) (h2 : a ≤ 9223372036854775807) : wrap64 a = a := by unfold wrap64; omega
end PB
end Go.Proofs.Ytnbamngancchmaa
