/- What bits.Writer.Put does: the writer has the bits of the number behind its own. No conditions. -/
import Derived.Test.YtnbamngancchmaaRows
import Derived.Test.YtnbamngancchmaaWords
import Derived.Test.YtnbamngancchmaaStamps
import Derived.Handy
import Derived.Deep.AppendLies
namespace Go.Proofs.Ytnbamngancchmaa
open Go.RowKit PB

def bv (n : Nat) : Value := .int .u8 (n : Int)
theorem Try.info5 : (Try.prog.info? 5).map (fun i => (i.zero, i.size, i.bytes)) = some (some (.int .u8 0), 1, 1) := by kernel_rfl

theorem i64_and (a b : Nat) (ha : a < 9223372036854775808) (hb : b < 9223372036854775808) : bits .and .i64 (a : Int) (b : Int) = ((a &&& b : Nat) : Int) := by
  have e : ∀ x : Nat, x < 9223372036854775808 → (BitVec.ofInt 64 (x : Int)).toNat = x := fun x hx => by
    rw [BitVec.ofInt_natCast, BitVec.toNat_ofNat]; exact Nat.mod_eq_of_lt (by omega)
  have hx : a &&& b < 2 ^ 63 := Nat.and_lt_two_pow _ (by omega)
  show IntKind.i64.wrap ((BitVec.ofInt 64 (a : Int) &&& BitVec.ofInt 64 (b : Int)).toNat : Int) = _
  rw [BitVec.toNat_and, e a ha, e b hb, IntKind.wrap_i64]
  omega
theorem i64_and7 (a : Nat) (ha : a < 9223372036854775808) : bits .and .i64 (a : Int) 7 = ((a % 8 : Nat) : Int) := by
  have := i64_and a 7 ha (by omega)
  rw [nat_mask3] at this
  exact this

/-- A writer at cells o, o + 1 of block g: it has the bits C. -/
structure Wr (w : World) (base g t o : Nat) (cs : Array Value) (sv : Value) (C : List Bool) : Prop where
  arr : Arr w g t cs
  hv : cs[o]? = some sv
  hn : cs[o + 1]? = some (.int .i64 (C.length : Int))
  own : w.ownsRow base 5 1 sv (bytesOf C).length ((bytesOf C).map bv)
theorem u64_wrap_bit (v : Int) (j : Nat) (hj : j < 64) : bits .and .u64 (IntKind.u64.wrap v / 2 ^ j) 1 = ((b2n (ibit v j) : Nat) : Int) := by
  have hw : IntKind.u64.wrap v = v % 18446744073709551616 := by simp [IntKind.wrap, IntKind.bits, IntKind.signed]
  have hp : (0 : Int) < 2 ^ j := Int.pow_pos (by omega)
  obtain ⟨a, ha⟩ := Int.eq_ofNat_of_zero_le (show 0 ≤ IntKind.u64.wrap v / 2 ^ j by rw [hw]; exact Int.ediv_nonneg (by omega) (by omega))
  have hlt : IntKind.u64.wrap v / 2 ^ j < 18446744073709551616 := by
    rw [hw]
    refine Int.lt_of_le_of_lt (Int.ediv_le_self _ (by omega)) (by omega)
  rw [ha]
  have := u64_and_nat a 1 (by omega) (by omega)
  rw [nat_mask1] at this
  have e : ((a % 2 : Nat) : Int) = v / 2 ^ j % 2 := by
    rw [Int.natCast_emod, ← ha, hw]
    obtain ⟨m, hm⟩ : ∃ m, 64 = j + (m + 1) := ⟨63 - j, by omega⟩
    have e2 : (18446744073709551616 : Int) = 2 ^ j * (2 * 2 ^ m) := by
      have : (18446744073709551616 : Int) = 2 ^ (j + (m + 1)) := by rw [← hm]; rfl
      rw [this, Int.pow_add, Int.pow_succ, Int.mul_comm (2 ^ m) 2]
    have e3 := Int.mul_ediv_add_emod v 18446744073709551616
    have e4 : v % 18446744073709551616 = v + 2 ^ j * (-(2 * 2 ^ m * (v / 18446744073709551616))) := by
      rw [Int.mul_neg, ← Int.mul_assoc, ← e2]; omega
    rw [e4, Int.add_mul_ediv_left _ _ (by omega)]
    have e5 : -(2 * 2 ^ m * (v / 18446744073709551616)) = 2 * (-(2 ^ m * (v / 18446744073709551616))) := by
      rw [Int.mul_assoc, Int.mul_neg]
    rw [e5]
    exact Int.add_mul_emod_self_left _ _ _
  have h5 := Int.emod_nonneg (v / 2 ^ j) (b := 2) (by omega)
  have h6 := Int.emod_lt_of_pos (v / 2 ^ j) (b := 2) (by omega)
  have e6 : ((b2n (ibit v j) : Nat) : Int) = v / 2 ^ j % 2 := by
    unfold b2n ibit
    by_cases h : v / 2 ^ j % 2 = 1
    · simp [h]
    · simp [h]; omega
  rw [e6, ← e]
  exact this


/-- A writer in the middle of a bit: its row has a byte for the next one. -/
structure Room (w : World) (base g t o : Nat) (cs : Array Value) (r N cap : Nat) (C : List Bool) : Prop where
  arr : Arr w g t cs
  hv : cs[o]? = some (.slice (some ⟨r, 0, none⟩) N cap)
  hn : cs[o + 1]? = some (.int .i64 (C.length : Int))
  own : w.ownsRow base 5 1 (.slice (some ⟨r, 0, none⟩) N cap) N ((bytesN C N).map bv)
  hN : N = C.length / 8 + 1
theorem Room.of_wr {w : World} {base g t o : Nat} {cs : Array Value} {sv : Value} {C : List Bool} (h : Wr w base g t o cs sv C) (hm : C.length % 8 ≠ 0) : ∃ r N cap, sv = .slice (some ⟨r, 0, none⟩) N cap ∧ Room w base g t o cs r N cap C ∧ N = (bytesOf C).length := by
  have hl := bytesOf_length C
  obtain ⟨r, cap, cur, rfl, _⟩ := own_form h.own (by rw [hl]; omega)
  have hr := bytesN_room C
  rw [if_neg hm] at hr
  have hN : (bytesOf C).length = C.length / 8 + 1 := by rw [hl]; omega
  refine ⟨r, _, cap, rfl, ⟨h.arr, h.hv, h.hn, ?_, hN⟩, rfl⟩
  have := h.own
  rw [hN] at this ⊢
  rw [hr]
  exact this
theorem Room.cell {w : World} {base g t o r N cap : Nat} {cs : Array Value} {C : List Bool} (h : Room w base g t o cs r N cap C) : w.cell? ⟨r, N - 1, none⟩ = some (.int .u8 ((byteAt C (C.length / 8) : Nat) : Int)) := by
  refine own_cell h.own ?_
  have e : N - 1 = C.length / 8 := by have := h.hN; omega
  rw [e]
  simp [bytesN, bv, h.hN]
theorem Room.ne {w : World} {base g t o r N cap : Nat} {cs : Array Value} {C : List Bool} (h : Room w base g t o cs r N cap C) (ht : 5 ≠ t) : r ≠ g := by
  have := own_ne h.own h.arr ht
  intro e
  exact this (by rw [e]; rfl)
theorem setIf_eq {cs : Array Value} {i : Nat} {u v : Value} (h : cs[i]? = some u) : (cs.setIfInBounds i v)[i]? = some v := by
  have hl : i < cs.size := by
    rcases Nat.lt_or_ge i cs.size with h1 | h1
    · exact h1
    · rw [Array.getElem?_eq_none h1] at h; cases h
  simp [hl]
theorem setIf_ne {cs : Array Value} {i k : Nat} {v : Value} (h : i ≠ k) : (cs.setIfInBounds i v)[k]? = cs[k]? := by
  simp [h]
/-- What a bit does to the writer. -/
theorem Room.step {w : World} {base g t o r N cap : Nat} {cs : Array Value} {C : List Bool} (h : Room w base g t o cs r N cap C) (ht : 5 ≠ t) (b : Bool) :
    Wr ((w.setCell ⟨r, N - 1, none⟩ (.int .u8 ((byteAt C (C.length / 8) ||| b2n b * 2 ^ (7 - C.length % 8) : Nat) : Int))).drew.setCell ⟨g, o + 1, none⟩ (.int .i64 (C.length + 1 : Int))) base g t o (cs.setIfInBounds (o + 1) (.int .i64 (C.length + 1 : Int))) (.slice (some ⟨r, 0, none⟩) N cap) (C ++ [b]) := by
  have hne := h.ne ht
  have e : N - 1 = C.length / 8 := by have := h.hN; omega
  refine ⟨((h.arr.far (p := ⟨r, N - 1, none⟩) hne _).drew).set _ _, by rw [setIf_ne (by omega)]; exact h.hv, ?_, ?_⟩
  · rw [setIf_eq h.hn]; simp
  · have h1 := own_set h.own (N - 1) (.int .u8 ((byteAt C (C.length / 8) ||| b2n b * 2 ^ (7 - C.length % 8) : Nat) : Int))
    have h2 := bytesOf_snoc C b
    have hl : (bytesOf (C ++ [b])).length = N := by rw [bytesOf_length, h.hN]; simp; omega
    rw [hl]
    have h3 : ((bytesN C N).map bv).set (N - 1) (.int .u8 ((byteAt C (C.length / 8) ||| b2n b * 2 ^ (7 - C.length % 8) : Nat) : Int)) = (bytesOf (C ++ [b])).map bv := by
      rw [← h2, e, ← h.hN, List.map_set]; rfl
    rw [h3] at h1
    have h4 := own_far (w := (w.setCell ⟨r, N - 1, none⟩ (.int .u8 ((byteAt C (C.length / 8) ||| b2n b * 2 ^ (7 - C.length % 8) : Nat) : Int))).drew) h1 (p := ⟨g, o + 1, none⟩) (by intro e; injection e with e; exact hne e) (.int .i64 (C.length + 1 : Int))
    exact h4
/-- What a new byte does to the writer. -/
theorem Room.of_append {w w1 : World} {base g t o r cap : Nat} {cs : Array Value} {sv : Value} {C : List Bool} (h : Wr w base g t o cs sv C) (hm : C.length % 8 = 0) (ht : 5 ≠ t) (x : Obj)
    (hown : w1.ownsRow base 5 1 (.slice (some ⟨r, 0, none⟩) ((bytesOf C).length + 1) cap) ((bytesOf C).length + 1) ((bytesOf C).map bv ++ [.int .u8 0])) (hg : (w.alloc x).grownBy w1 sv.ownBlock) :
    Room (w1.setCell ⟨g, o, none⟩ (.slice (some ⟨r, 0, none⟩) ((bytesOf C).length + 1) cap)) base g t o (cs.setIfInBounds o (.slice (some ⟨r, 0, none⟩) ((bytesOf C).length + 1) cap)) r ((bytesOf C).length + 1) cap C ∧ Arr w1 g t cs := by
  have hl := bytesOf_length C
  obtain ⟨r', cap', cur, he, hb, ha, _⟩ := own_form hown (by omega)
  injection he with he _ _
  injection he with he
  injection he with he
  subst he
  have hN : (bytesOf C).length + 1 = C.length / 8 + 1 := by rw [hl]; omega
  have ha1 : Arr w1 g t cs := (h.arr.alloc x).grown hg (own_ne h.own h.arr ht)
  have hne : r ≠ g := Arr.ne ha ha1 ht
  have hr := bytesN_room C
  rw [if_pos hm] at hr
  refine ⟨⟨ha1.set _ _, setIf_eq h.hv, by rw [setIf_ne (by omega)]; exact h.hn, ?_, hN⟩, ha1⟩
  have h1 := own_far hown (p := ⟨g, o, none⟩) (by intro e; injection e with e; exact hne e) (.slice (some ⟨r, 0, none⟩) ((bytesOf C).length + 1) cap)
  rw [hN] at h1 ⊢
  rw [hr, List.map_append]
  exact h1

theorem shl_or (x q m : Nat) (hx : x < 256) (hq : q < 2) (hm : m < 8) : bits .or .u8 (x : Int) ((q : Int) * 2 ^ (7 - m) % 256) = ((x ||| q * 2 ^ (7 - m) : Nat) : Int) := by
  have hlt : q * 2 ^ (7 - m) < 256 := by
    have : 2 ^ (7 - m) ≤ 2 ^ 7 := Nat.pow_le_pow_right (by omega) (by omega)
    have h2 : q * 2 ^ (7 - m) ≤ 1 * 2 ^ (7 - m) := Nat.mul_le_mul_right _ (by omega)
    omega
  have e : (q : Int) * 2 ^ (7 - m) % 256 = ((q * 2 ^ (7 - m) : Nat) : Int) := by
    have e1 : ((q * 2 ^ (7 - m) : Nat) : Int) = (q : Int) * 2 ^ (7 - m) := by rw [Int.natCast_mul, Int.natCast_pow]; rfl
    rw [← e1]; omega
  rw [e]
  exact u8_or_nat x _ hx hlt

/-- What a Put leaves. -/
def PutPost (w : World) (base g t o : Nat) (sv : Value) (C : List Bool) (w' : World) : Prop :=
  ∃ cs' sv', Wr w' base g t o cs' sv' C ∧ Kp (fun k => k = g ∨ sv.ownBlock = some k) w w' ∧ (∀ k, sv'.ownBlock = some k → sv.ownBlock = some k ∨ w.heap.size ≤ k)

set_option maxRecDepth 100000 in
set_option maxHeartbeats 1000000 in
theorem put_any (base g t o n : Nat) (cs : Array Value) (v : Int) (sv : Value) (C : List Bool) (w : World) (hn : n ≤ 64) (ht : 5 ≠ t) (hb : base ≤ w.heap.size) (hl : C.length + n ≤ 1000000)
    (hw : Wr w base g t o cs sv C) :
    Calls Try.prog 37 #[.pointer (some ⟨g, o, none⟩), .int .i64 v, .int .i64 n] w fun e w' => e = .returned (.tuple #[]) ∧ PutPost w base g t o sv (C ++ putBits v n) w' := by
  obtain ⟨i0, hi, hz0, hz1, hz2⟩ := info_parts Try.info5
  by_cases hn0 : 0 < n
  · go_enter Try.func37, Try.ntmps37
    go_wp2_with fail
    go_loopw [6] (fun i wr => ∃ (i' : Int) (D : List Bool) (cs' : Array Value) (sv' : Value), -1 ≤ i' ∧ i' < 64 ∧ i = .int .i64 i' ∧ Hid (D ++ putBits v (i' + 1).toNat = C ++ putBits v n) ∧ Wr wr base g t o cs' sv' D ∧ Kp (fun k => k = g ∨ sv.ownBlock = some k) w wr ∧ (∀ k, sv'.ownBlock = some k → sv.ownBlock = some k ∨ w.heap.size ≤ k)) (fun i _ => (intOf i + 1).toNat)
    case atStart => exact ⟨(n : Int) - 1, C, cs, sv, by omega, by omega, rfl, by rw [show ((n : Int) - 1 + 1).toNat = n by omega]; exact rfl, hw, Kp.refl _ _, fun k hk => Or.inl hk⟩
    case round =>
      obtain ⟨i, D, cs', sv', hi0, hi1, rfl, HD, hwr, hkp, hrl⟩ := hrel
      by_cases hneg : i < 0
      · have hD := HD.out
        rw [show (i + 1).toNat = 0 by omega] at hD
        have HR : Hid (PutPost w base g t o sv (C ++ putBits v n) wr) := by
          refine ⟨cs', sv', ?_, hkp, hrl⟩
          rw [← hD]
          simpa [putBits] using hwr
        clear hD hrl hkp hwr HD
        go_wp2_with fail
        go_end0
        exact ⟨rfl, HR.out⟩
      · obtain ⟨j, rfl⟩ := Int.eq_ofNat_of_zero_le (show 0 ≤ i by omega)
        have hDl : D.length + 1 ≤ 1000000 := by
          have := congrArg List.length HD.out
          simp [putBits_length] at this; omega
        have h0 := hwr.arr.at_ hwr.hv
        have h1 := hwr.arr.at_ hwr.hn
        have hb7 := i64_and7 D.length (by omega)
        have HD2 : Hid ((D ++ [ibit v j]) ++ putBits v j = C ++ putBits v n) := by
          have := HD.out
          rw [show ((j : Int) + 1).toNat = j + 1 by omega, putBits] at this
          show _ = _
          rw [← this]; simp
        obtain ⟨q, hq⟩ : ∃ q, q = b2n (ibit v j) := ⟨_, rfl⟩
        have hbit := u64_wrap_bit v j (by omega)
        rw [← hq] at hbit
        have hq2 : q < 2 := by rw [hq]; exact b2n_lt _
        have HQ := Lib.hid hq
        have hbb : base ≤ wr.heap.size := Nat.le_trans hb hkp.size
        have H2 : Hid (¬ D.length % 8 = 0) ∨ Hid (D.length % 8 = 0) := by
          by_cases h : D.length % 8 = 0
          · exact Or.inr h
          · exact Or.inl h
        have HRL := Lib.hid hrl
        clear hq HD hrl
        rcases H2 with H2 | H2
        · have hmB : ((D.length % 8 : Nat) : Int) ≠ 0 := by have := H2.out; omega
          obtain ⟨r, N, cap, rfl, hroom, hNe⟩ := Room.of_wr hwr H2.out
          have HN := Lib.hid hNe
          clear hNe
          have hc := hroom.cell
          have hfz := own_frozen hroom.own (N - 1)
          have hNb : 1 ≤ N ∧ N ≤ 1000000 := by have := hroom.hN; omega
          have hne := hroom.ne ht
          have HS := Lib.hid (hroom.step ht (ibit v j))
          rw [← HQ.out] at HS
          have hby := byteAt_lt D (D.length / 8)
          have hor := shl_or (byteAt D (D.length / 8)) q (D.length % 8) hby hq2 (Nat.mod_lt _ (by omega))
          obtain ⟨x, hx⟩ : ∃ x, x = byteAt D (D.length / 8) := ⟨_, rfl⟩
          rw [← hx] at hc hby hor HS
          obtain ⟨y, hy⟩ : ∃ y, y = x ||| q * 2 ^ (7 - D.length % 8) := ⟨_, rfl⟩
          rw [← hy] at hor HS
          have HX := Lib.hid hx
          have HY := Lib.hid hy
          clear hx hy
          go_wp2_with fail
          go_region
          obtain ⟨w3, hw3⟩ : ∃ w3, w3 = (wr.setCell ⟨r, N - 1, none⟩ (.int .u8 (y : Int))).drew := ⟨_, rfl⟩
          rw [← hw3] at HS ⊢
          have A3 : Arr w3 g t cs' := by rw [hw3]; exact (hroom.arr.far (p := ⟨r, N - 1, none⟩) hne _).drew
          have k1 := A3.at_ hroom.hn
          have f1 := A3.frozen (o + 1)
          have HKP : Hid (Kp (fun k => k = g ∨ sv.ownBlock = some k) w (w3.setCell ⟨g, o + 1, none⟩ (.int .i64 (D.length + 1 : Int)))) := by
            refine Kp.setCell ?_ (Or.inl (Or.inl rfl)) _
            rw [hw3]
            exact Kp.drew (Kp.setCell hkp (by rcases HRL.out r rfl with h | h; exact Or.inl (Or.inr h); exact Or.inr h) _)
          clear hw3 h0 h1 hc hfz hor hwr hroom A3 hkp hbit hb7
          go_wp2_with fail
          go_roundw
          case rel => exact ⟨(j : Int) - 1, D ++ [ibit v j], _, _, by omega, by omega, rfl, by rw [show ((j : Int) - 1 + 1).toNat = j by omega]; exact HD2, HS.out, HKP.out, HRL.out⟩
          case measure => simp [intOf]
        · have hmB : ((D.length % 8 : Nat) : Int) = 0 := by have := H2.out; omega
          have hfg := hwr.arr.frozen o
          have hrow := hwr.own
          have hlB := bytesOf_length D
          obtain ⟨M, hM⟩ : ∃ M, M = (bytesOf D).length := ⟨_, rfl⟩
          rw [← hM] at hrow hlB
          have hMb : M ≤ 1000000 := by omega
          have HM := Lib.hid hM
          clear hlB hM
          go_wp2_with (at_builtin; refine wpList_append_lies _ rfl (.tmp 27) (.tmp 28) 24 rfl base 5 i0 (.int .u8 0) 1 1 Try.underlying24 hi hz0 hz1 hz2 rfl (by decide) sv' M ((bytesOf D).map bv) rfl (hrow.alloc _) ⟨wr.heap.size, 0, none⟩ 1 1 [.int .u8 0] rfl rfl (World.news_of_block (cs := #[.int .u8 0]) (t := 5) (fr := (0, 0)) (heap_alloc_new wr _)) (by simp [Value.oneCell']) (by omega) (by unfold maxLen; omega) (by omega) (by simp; omega) (wr.heap.size + 1) (by simp) ?_)
          intro r cap w1 hown1 hg1 hat1 hlt1
          rw [HM.out] at hown1
          obtain ⟨hroom, ha1⟩ := Room.of_append hwr H2.out ht _ hown1 hg1
          rw [← HM.out] at hroom
          have k0 := ha1.at_ hwr.hv
          have f0 := ha1.frozen o
          have HROOM := Lib.hid hroom
          have HKP0 : Hid (Kp (fun k => k = g ∨ sv.ownBlock = some k) w (w1.setCell ⟨g, o, none⟩ (.slice (some ⟨r, 0, none⟩) (M + 1) cap))) := by
            refine Kp.setCell (Kp.grown (hkp.alloc _) hg1 ?_) (Or.inl (Or.inl rfl)) _
            intro x hx he
            rcases HRL.out x he with h | h
            · exact Or.inr h
            · omega
          have HRL2 : Hid (∀ k, (Value.slice (some ⟨r, 0, none⟩) (M + 1) cap).ownBlock = some k → sv.ownBlock = some k ∨ w.heap.size ≤ k) := by
            intro k hk
            have hk : r = k := by simpa [Value.ownBlock] using hk
            subst hk
            rcases hat1 with h | h
            · exact HRL.out _ h
            · have := hkp.size; exact Or.inr (by omega)
          clear hroom hown1 hg1 hat1 hlt1 hrow h0 h1 hwr hkp ha1
          go_wp2_with fail
          obtain ⟨w2, hw2⟩ : ∃ w2, w2 = w1.setCell ⟨g, o, none⟩ (.slice (some ⟨r, 0, none⟩) (M + 1) cap) := ⟨_, rfl⟩
          rw [← hw2] at HROOM HKP0 ⊢
          clear hw2 k0 f0
          have hroom := HROOM.out
          have h0 := hroom.arr.at_ hroom.hv
          have h1 := hroom.arr.at_ hroom.hn
          have hc := hroom.cell
          have hfz := own_frozen hroom.own (M + 1 - 1)
          have hne := hroom.ne ht
          have HS := Lib.hid (hroom.step ht (ibit v j))
          rw [← HQ.out] at HS
          have hby := byteAt_lt D (D.length / 8)
          have hor := shl_or (byteAt D (D.length / 8)) q (D.length % 8) hby hq2 (Nat.mod_lt _ (by omega))
          obtain ⟨x, hx⟩ : ∃ x, x = byteAt D (D.length / 8) := ⟨_, rfl⟩
          rw [← hx] at hc hby hor HS
          obtain ⟨y, hy⟩ : ∃ y, y = x ||| q * 2 ^ (7 - D.length % 8) := ⟨_, rfl⟩
          rw [← hy] at hor HS
          have HX := Lib.hid hx
          have HY := Lib.hid hy
          clear hx hy HROOM
          rw [show M + 1 - 1 = M by omega] at hc hfz HS
          rw [H2.out, show (q : Int) * 2 ^ (7 - 0) % 256 = (q : Int) * 128 by omega] at hor
          go_region
          obtain ⟨w3, hw3⟩ : ∃ w3, w3 = (w2.setCell ⟨r, M, none⟩ (.int .u8 (y : Int))).drew := ⟨_, rfl⟩
          rw [← hw3] at HS ⊢
          have A3 : Arr w3 g t (cs'.setIfInBounds o (.slice (some ⟨r, 0, none⟩) (M + 1) cap)) := by rw [hw3]; exact (hroom.arr.far (p := ⟨r, M, none⟩) hne _).drew
          have k1 := A3.at_ hroom.hn
          have f1 := A3.frozen (o + 1)
          have HKP : Hid (Kp (fun k => k = g ∨ sv.ownBlock = some k) w (w3.setCell ⟨g, o + 1, none⟩ (.int .i64 (D.length + 1 : Int)))) := by
            refine Kp.setCell ?_ (Or.inl (Or.inl rfl)) _
            rw [hw3]
            exact Kp.drew (Kp.setCell HKP0.out (by rcases HRL2.out r rfl with h | h; exact Or.inl (Or.inr h); exact Or.inr h) _)
          clear hw3 h0 h1 hc hfz hor hroom A3 hbit hb7
          go_wp2_with fail
          go_roundw
          case rel => exact ⟨(j : Int) - 1, D ++ [ibit v j], _, _, by omega, by omega, rfl, by rw [show ((j : Int) - 1 + 1).toNat = j by omega]; exact HD2, HS.out, HKP.out, HRL2.out⟩
          case measure => simp [intOf]
  · obtain rfl : n = 0 := by omega
    have HR : Hid (PutPost w base g t o sv (C ++ putBits v 0) w) := ⟨cs, sv, by simpa [putBits] using hw, Kp.refl _ _, fun k hk => Or.inl hk⟩
    clear hw hl
    go_enter Try.func37, Try.ntmps37
    go_wp2_with fail
    go_loop [6] (fun i => i = .int .i64 (-1)) (fun i => 0)
    case atStart => rfl
    case round =>
      subst hrel
      go_wp2_with fail
      go_end0
      exact ⟨rfl, HR.out⟩
