/- What bits.Reader.Left and take do: the bits from a place on, as a number; and when they give up. Conditions: at most 10^9 bytes, 64 bits at once. -/
import Derived.Test.YtnbamngancchmaaLaw
import Derived.BigQuiet
import Derived.Deep.QuietTactic
import Derived.WalkLawsBesides
namespace Go.Proofs.Ytnbamngancchmaa
open Go.RowKit PB PS

/-- A reader: block g holds it; it has the bytes l and stands at a place. -/
structure Rdr (w : World) (g : Nat) (A : Option Addr) (n c : Nat) (l : List Nat) (pos : Nat) : Prop where
  arr : Arr w g 120 #[.slice A n c, .int .i64 (pos : Int)]
  rd : Rd w g A n (l.map bv)
  at_ : pos ≤ 8 * n
theorem Rdr.len {w : World} {g n c pos : Nat} {A : Option Addr} {l : List Nat} (h : Rdr w g A n c l pos) : l.length = n := by have := h.rd.1; simpa using this
theorem Rdr.drewN {w : World} {g n c pos : Nat} {A : Option Addr} {l : List Nat} (h : Rdr w g A n c l pos) (k : Nat) : Rdr (w.drewN k) g A n c l pos := ⟨h.arr, h.rd, h.at_⟩
theorem Rdr.kp {w w' : World} {S : Nat → Prop} {g n c pos : Nat} {A : Option Addr} {l : List Nat} (h : Rdr w g A n c l pos) (k : Kp S w w') (hs : ∀ x, x ≤ g → ¬ S x) : Rdr w' g A n c l pos :=
  ⟨h.arr.kp k (hs g (Nat.le_refl _)), h.rd.kp k (Nat.le_of_lt h.arr.lt) (fun x hx => hs x (Nat.le_of_lt hx)), h.at_⟩

set_option maxRecDepth 100000 in
theorem left_any (g n c pos : Nat) (A : Option Addr) (l : List Nat) (w : World) (h : Rdr w g A n c l pos) (hn : n ≤ 1000000000) :
    Calls Try.prog 76 #[.pointer (some ⟨g, 0, none⟩)] w fun e w' => e = .returned (.int .i64 (8 * (n : Int) - pos)) ∧ ∃ k, w' = w.drewN k := by
  have c0 := h.arr.at_ (i := 0) rfl
  have c1 := h.arr.at_ (i := 1) rfl
  have hp := h.at_
  have hm : IntKind.i64.wrap (8 * (n : Int)) = 8 * (n : Int) := IntWalk.i64_in _ (by omega)
  have hm2 : IntKind.i64.wrap (8 * (n : Int) - (pos : Int)) = 8 * (n : Int) - (pos : Int) := IntWalk.i64_in _ (by omega)
  clear hp
  go_enter Try.func76, Try.ntmps76
  go_wp2_with fail
  go_quiet (fail)
  go_wp2_with fail
  go_ret
  exact ⟨rfl, _, rfl⟩

theorem byte_bit (x m : Nat) (hx : x < 256) (_hm : m < 8) : bits .and .u8 ((x : Int) / 2 ^ (7 - m)) 1 = ((x / 2 ^ (7 - m) % 2 : Nat) : Int) := by
  have hp : 1 ≤ 2 ^ (7 - m) := Nat.one_le_two_pow
  have hlt : x / 2 ^ (7 - m) < 256 := Nat.lt_of_le_of_lt (Nat.div_le_self _ _) hx
  have e : (x : Int) / 2 ^ (7 - m) = ((x / 2 ^ (7 - m) : Nat) : Int) := by rw [Int.natCast_ediv, Int.natCast_pow]; rfl
  rw [e]
  have := u8_and_nat (x / 2 ^ (7 - m)) 1 hlt (by omega)
  rw [nat_mask1] at this
  exact this
theorem u64_join (v q : Nat) (hv : v < 9223372036854775808) (hq : q < 2) : bits .or .u64 ((v : Int) * 2) (q : Int) = ((2 * v + q : Nat) : Int) := by
  have h1 := u64_or_nat (v * 2) q (by omega) (by omega)
  rw [nat_join 1 (v * 2) q (by omega) (by omega)] at h1
  have e : ((v * 2 : Nat) : Int) = (v : Int) * 2 := by omega
  rw [e] at h1
  rw [h1]
  omega

/-- What a reader gives up with. -/
def gaveUp (e : Int) : Ending := .panicked [{ v := .iface 124 (.agg #[.int .i64 e]), recovered := false }]

set_option maxRecDepth 100000 in
theorem take_none (g n c pos m : Nat) (A : Option Addr) (l : List Nat) (w : World) (h : Rdr w g A n c l pos) (hn : n ≤ 1000000000) (hm : m ≤ 64) (hlt : 8 * n < pos + m) :
    Calls Try.prog 75 #[.pointer (some ⟨g, 0, none⟩), .int .i64 (m : Int)] w fun e w' => e = gaveUp 5 ∧ ∃ k, w' = w.drewN k := by
  have hp := h.at_
  go_enter Try.func75, Try.ntmps75
  go_wp2_with fail
  have hq := left_any g n c pos A l w h hn
  refine hq.mono ?_
  rintro e w1 ⟨rfl, k, rfl⟩
  go_wp2_with fail
  exact ⟨rfl, rfl, _, rfl⟩

set_option maxRecDepth 100000 in
set_option maxHeartbeats 1000000 in
theorem take_some (g n c pos m : Nat) (A : Option Addr) (l : List Nat) (w : World) (h : Rdr w g A n c l pos) (hn : n ≤ 1000000000) (hm : m ≤ 64) (hle : pos + m ≤ 8 * n) (hb : ∀ x ∈ l, x < 256) :
    Calls Try.prog 75 #[.pointer (some ⟨g, 0, none⟩), .int .i64 (m : Int)] w fun e w' => e = .returned (.int .i64 (wrap64 ((natOf (((bitsOf l).drop pos).take m) : Nat) : Int))) ∧ Rdr w' g A n c l (pos + m) ∧ Kp (fun x => x = g) w w' := by
  have hll := h.len
  go_enter Try.func75, Try.ntmps75
  go_wp2_with fail
  have hq := left_any g n c pos A l w h hn
  refine hq.mono ?_
  rintro e w1 ⟨rfl, k, rfl⟩
  have HLL := Lib.hid hll
  clear hll hq
  go_wp2_with fail
  go_loopw [5, 21] (fun v i wr => ∃ k : Nat, k ≤ m ∧ i = .int .i64 k ∧ v = .int .u64 ((natOf (((bitsOf l).drop pos).take k) : Nat) : Int) ∧ Rdr wr g A n c l (pos + k) ∧ Kp (fun x => x = g) w wr) (fun _ i _ => m - (intOf i).toNat)
  case atStart => exact ⟨0, Nat.zero_le _, rfl, rfl, h.drewN _, (Kp.refl _ _).drewN _⟩
  case round =>
    obtain ⟨k, hk, rfl, rfl, hr, hkp⟩ := hrel
    by_cases hlt : k < m
    · obtain ⟨b, off, rfl, hbg, hc⟩ := hr.rd.2 (by omega)
      have c0 := hr.arr.at_ (i := 0) rfl
      have c1 := hr.arr.at_ (i := 1) rfl
      obtain ⟨p, hp⟩ : ∃ p, p = pos + k := ⟨_, rfl⟩
      rw [← hp] at c1
      have hpn : p < 8 * n := by omega
      have hcx := hc (p / 8) (bv (l.getD (p / 8) 0)) (by
        have : p / 8 < l.length := by rw [HLL.out]; omega
        simp [List.getD, this])
      unfold bv at hcx
      obtain ⟨x, hx⟩ : ∃ x, x = l.getD (p / 8) 0 := ⟨_, rfl⟩
      rw [← hx] at hcx
      have hx2 : x < 256 := by
        have hlt2 : p / 8 < l.length := by rw [HLL.out]; omega
        rw [hx]
        simp only [List.getD, List.getElem?_eq_getElem hlt2, Option.getD_some]
        exact hb _ (List.getElem_mem _)
      have h7 := i64_and7 p (by omega)
      have HX := Lib.hid hx
      have HP := Lib.hid hp
      clear hp hx hc
      have f1 := hr.arr.frozen 1
      obtain ⟨v, hv⟩ : ∃ v, v = natOf (((bitsOf l).drop pos).take k) := ⟨_, rfl⟩
      rw [← hv]
      have HV := Lib.hid hv
      have hvl : v < 9223372036854775808 := by
        have h1 := natOf_lt (((bitsOf l).drop pos).take k)
        have h2 : (((bitsOf l).drop pos).take k).length ≤ 63 := by rw [List.length_take]; omega
        have h3 : 2 ^ (((bitsOf l).drop pos).take k).length ≤ 2 ^ 63 := Nat.pow_le_pow_right (by omega) h2
        omega
      obtain ⟨q, hq⟩ : ∃ q, q = x / 2 ^ (7 - p % 8) % 2 := ⟨_, rfl⟩
      have hq2 : q < 2 := by rw [hq]; exact Nat.mod_lt _ (by omega)
      have hand := byte_bit x (p % 8) hx2 (Nat.mod_lt _ (by omega))
      rw [← hq] at hand
      have hor := u64_join v q hvl hq2
      have HQ : Hid (natOf (((bitsOf l).drop pos).take (k + 1)) = 2 * v + q) := by
        show _ = _
        have hlB : pos + k < (bitsOf l).length := by rw [bitsOf_length, HLL.out]; omega
        have e1 : ((bitsOf l).drop pos).take (k + 1) = ((bitsOf l).drop pos).take k ++ [(bitsOf l)[pos + k]] := by
          rw [List.take_succ_eq_append_getElem (by rw [List.length_drop]; omega), List.getElem_drop]
        rw [e1, natOf_snoc, ← HV.out, bitsOf_get]
        have e2 : rbit l (pos + k) = q := by unfold rbit; rw [hq, HX.out, HP.out]
        rw [e2]
        congr 1
        rcases bit_eq hq2 with h0 | h0 <;> rw [h0] <;> rfl
      have hbf : b ≠ g := by omega
      have HR : ∀ nq : Nat, Hid (Rdr ((wr.drewN nq).setCell ⟨g, 1, none⟩ (.int .i64 ((p : Int) + 1))) g (some ⟨b, off, none⟩) n c l (pos + (k + 1)) ∧ Kp (fun x => x = g) w ((wr.drewN nq).setCell ⟨g, 1, none⟩ (.int .i64 ((p : Int) + 1)))) := by
        intro nq
        refine ⟨⟨?_, ?_, by omega⟩, (hkp.drewN nq).setCell (Or.inl rfl) _⟩
        · have := (hr.drewN nq).arr.set 1 (.int .i64 ((p : Int) + 1))
          rw [HP.out] at this ⊢
          exact this
        · exact (hr.drewN nq).rd.keep fun y hy => Below.heap_setCell (wr.drewN nq) ⟨g, 1, none⟩ _ y (by show y ≠ g; omega)
      clear hv hq hr hkp
      go_wp2_with fail
      go_quiet (fail)
      go_wp2_with fail
      go_roundw
      case rel => exact ⟨k + 1, by omega, by go_num, by rw [HQ.out]; go_num, (HR _).out.1, (HR _).out.2⟩
      case measure => simp [intOf]; omega
    · obtain rfl : k = m := by omega
      have HR : Hid (Rdr wr g A n c l (pos + k) ∧ Kp (fun x => x = g) w wr) := ⟨hr, hkp⟩
      obtain ⟨v, hv⟩ : ∃ v, v = natOf (((bitsOf l).drop pos).take k) := ⟨_, rfl⟩
      rw [← hv]
      have hvl : v < 18446744073709551616 := by
        have h1 := natOf_lt (((bitsOf l).drop pos).take k)
        have h2 : (((bitsOf l).drop pos).take k).length ≤ 64 := by rw [List.length_take]; omega
        have h3 : 2 ^ (((bitsOf l).drop pos).take k).length ≤ 2 ^ 64 := Nat.pow_le_pow_right (by omega) h2
        omega
      have HV := Lib.hid hv
      clear hv hr hkp
      go_wp2_with fail
      go_ret
      exact ⟨by rw [← HV.out]; rfl, HR.out.1, HR.out.2⟩
end Go.Proofs.Ytnbamngancchmaa
