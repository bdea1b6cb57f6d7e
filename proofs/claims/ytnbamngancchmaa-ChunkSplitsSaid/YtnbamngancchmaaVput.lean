/- What bits.Writer.Put does, with the cells of the block beside the writer: they stay. No conditions. -/
import Derived.Test.YtnbamngancchmaaPut
namespace Go.Proofs.Ytnbamngancchmaa
open Go.RowKit PB

/-- Off the writer's two cells the block's cells are the same. -/
def OffSame (o : Nat) (cs cs' : Array Value) : Prop := ∀ i, i ≠ o → i ≠ o + 1 → cs'[i]? = cs[i]?
theorem OffSame.refl (o : Nat) (cs : Array Value) : OffSame o cs cs := fun _ _ _ => rfl
theorem OffSame.trans {o : Nat} {a b c : Array Value} (h : OffSame o a b) (k : OffSame o b c) : OffSame o a c := fun i h1 h2 => (k i h1 h2).trans (h i h1 h2)
theorem OffSame.at0 {o : Nat} {cs cs' : Array Value} (h : OffSame o cs cs') (v : Value) : OffSame o cs (cs'.setIfInBounds o v) := fun i h1 h2 => by rw [setIf_ne (Ne.symm h1)]; exact h i h1 h2
theorem OffSame.at1 {o : Nat} {cs cs' : Array Value} (h : OffSame o cs cs') (v : Value) : OffSame o cs (cs'.setIfInBounds (o + 1) v) := fun i h1 h2 => by rw [setIf_ne (Ne.symm h2)]; exact h i h1 h2
/-- What a Put leaves, with the cells beside the writer. -/
def PutPostF (w : World) (base g t o : Nat) (cs : Array Value) (sv : Value) (C : List Bool) (w' : World) : Prop :=
  ∃ cs' sv', Wr w' base g t o cs' sv' C ∧ Kp (fun k => k = g ∨ sv.ownBlock = some k) w w' ∧ (∀ k, sv'.ownBlock = some k → sv.ownBlock = some k ∨ w.heap.size ≤ k) ∧ OffSame o cs cs'

set_option maxRecDepth 100000 in
set_option maxHeartbeats 1000000 in
theorem put_all (base g t o n : Nat) (cs : Array Value) (v : Int) (sv : Value) (C : List Bool) (w : World) (hn : n ≤ 64) (ht : 5 ≠ t) (hb : base ≤ w.heap.size) (hl : C.length + n ≤ 1000000)
    (hw : Wr w base g t o cs sv C) :
    Calls Try.prog 37 #[.pointer (some ⟨g, o, none⟩), .int .i64 v, .int .i64 n] w fun e w' => e = .returned (.tuple #[]) ∧ PutPostF w base g t o cs sv (C ++ putBits v n) w' := by
  obtain ⟨i0, hi, hz0, hz1, hz2⟩ := info_parts Try.info5
  by_cases hn0 : 0 < n
  · go_enter Try.func37, Try.ntmps37
    go_wp2_with fail
    go_loopw [6] (fun i wr => ∃ (i' : Int) (D : List Bool) (cs' : Array Value) (sv' : Value), -1 ≤ i' ∧ i' < 64 ∧ i = .int .i64 i' ∧ Hid (D ++ putBits v (i' + 1).toNat = C ++ putBits v n) ∧ Wr wr base g t o cs' sv' D ∧ Kp (fun k => k = g ∨ sv.ownBlock = some k) w wr ∧ (∀ k, sv'.ownBlock = some k → sv.ownBlock = some k ∨ w.heap.size ≤ k) ∧ Hid (OffSame o cs cs')) (fun i _ => (intOf i + 1).toNat)
    case atStart => exact ⟨(n : Int) - 1, C, cs, sv, by omega, by omega, rfl, by rw [show ((n : Int) - 1 + 1).toNat = n by omega]; exact rfl, hw, Kp.refl _ _, fun k hk => Or.inl hk, OffSame.refl _ _⟩
    case round =>
      obtain ⟨i, D, cs', sv', hi0, hi1, rfl, HD, hwr, hkp, hrl, HOF⟩ := hrel
      by_cases hneg : i < 0
      · have hD := HD.out
        rw [show (i + 1).toNat = 0 by omega] at hD
        have HR : Hid (PutPostF w base g t o cs sv (C ++ putBits v n) wr) := by
          refine ⟨cs', sv', ?_, hkp, hrl, HOF.out⟩
          rw [← hD]
          simpa [putBits] using hwr
        clear hD hrl hkp hwr HD
        go_wp2_with fail
        go_end0
        exact ⟨rfl, HR.out⟩
      · obtain ⟨j, rfl⟩ := Int.eq_ofNat_of_zero_le (show 0 ≤ i by omega)
        have hDl : D.length + 1 ≤ 1000000 := by
          have := congrArg List.length HD.out
          simp [putBits_length] at this; omega
        have h0 := hwr.arr.at_ hwr.hv
        have h1 := hwr.arr.at_ hwr.hn
        have hb7 := i64_and7 D.length (by omega)
        have HD2 : Hid ((D ++ [ibit v j]) ++ putBits v j = C ++ putBits v n) := by
          have := HD.out
          rw [show ((j : Int) + 1).toNat = j + 1 by omega, putBits] at this
          show _ = _
          rw [← this]; simp
        obtain ⟨q, hq⟩ : ∃ q, q = b2n (ibit v j) := ⟨_, rfl⟩
        have hbit := u64_wrap_bit v j (by omega)
        rw [← hq] at hbit
        have hq2 : q < 2 := by rw [hq]; exact b2n_lt _
        have HQ := Lib.hid hq
        have hbb : base ≤ wr.heap.size := Nat.le_trans hb hkp.size
        have H2 : Hid (¬ D.length % 8 = 0) ∨ Hid (D.length % 8 = 0) := by
          by_cases h : D.length % 8 = 0
          · exact Or.inr h
          · exact Or.inl h
        have HRL := Lib.hid hrl
        clear hq HD hrl
        rcases H2 with H2 | H2
        · have hmB : ((D.length % 8 : Nat) : Int) ≠ 0 := by have := H2.out; omega
          obtain ⟨r, N, cap, rfl, hroom, hNe⟩ := Room.of_wr hwr H2.out
          have HN := Lib.hid hNe
          clear hNe
          have hc := hroom.cell
          have hfz := own_frozen hroom.own (N - 1)
          have hNb : 1 ≤ N ∧ N ≤ 1000000 := by have := hroom.hN; omega
          have hne := hroom.ne ht
          have HS := Lib.hid (hroom.step ht (ibit v j))
          rw [← HQ.out] at HS
          have hby := byteAt_lt D (D.length / 8)
          have hor := shl_or (byteAt D (D.length / 8)) q (D.length % 8) hby hq2 (Nat.mod_lt _ (by omega))
          obtain ⟨x, hx⟩ : ∃ x, x = byteAt D (D.length / 8) := ⟨_, rfl⟩
          rw [← hx] at hc hby hor HS
          obtain ⟨y, hy⟩ : ∃ y, y = x ||| q * 2 ^ (7 - D.length % 8) := ⟨_, rfl⟩
          rw [← hy] at hor HS
          have HX := Lib.hid hx
          have HY := Lib.hid hy
          clear hx hy
          go_wp2_with fail
          go_region
          obtain ⟨w3, hw3⟩ : ∃ w3, w3 = (wr.setCell ⟨r, N - 1, none⟩ (.int .u8 (y : Int))).drew := ⟨_, rfl⟩
          rw [← hw3] at HS ⊢
          have A3 : Arr w3 g t cs' := by rw [hw3]; exact (hroom.arr.far (p := ⟨r, N - 1, none⟩) hne _).drew
          have k1 := A3.at_ hroom.hn
          have f1 := A3.frozen (o + 1)
          have HKP : Hid (Kp (fun k => k = g ∨ sv.ownBlock = some k) w (w3.setCell ⟨g, o + 1, none⟩ (.int .i64 (D.length + 1 : Int)))) := by
            refine Kp.setCell ?_ (Or.inl (Or.inl rfl)) _
            rw [hw3]
            exact Kp.drew (Kp.setCell hkp (by rcases HRL.out r rfl with h | h; exact Or.inl (Or.inr h); exact Or.inr h) _)
          clear hw3 h0 h1 hc hfz hor hwr hroom A3 hkp hbit hb7
          go_wp2_with fail
          go_roundw
          case rel => exact ⟨(j : Int) - 1, D ++ [ibit v j], _, _, by omega, by omega, rfl, by rw [show ((j : Int) - 1 + 1).toNat = j by omega]; exact HD2, HS.out, HKP.out, HRL.out, HOF.out.at1 _⟩
          case measure => simp [intOf]
        · have hmB : ((D.length % 8 : Nat) : Int) = 0 := by have := H2.out; omega
          have hfg := hwr.arr.frozen o
          have hrow := hwr.own
          have hlB := bytesOf_length D
          obtain ⟨M, hM⟩ : ∃ M, M = (bytesOf D).length := ⟨_, rfl⟩
          rw [← hM] at hrow hlB
          have hMb : M ≤ 1000000 := by omega
          have HM := Lib.hid hM
          clear hlB hM
          go_wp2_with (at_builtin; refine wpList_append_lies _ rfl (.tmp 27) (.tmp 28) 24 rfl base 5 i0 (.int .u8 0) 1 1 Try.underlying24 hi hz0 hz1 hz2 rfl (by decide) sv' M ((bytesOf D).map bv) rfl (hrow.alloc _) ⟨wr.heap.size, 0, none⟩ 1 1 [.int .u8 0] rfl rfl (World.news_of_block (cs := #[.int .u8 0]) (t := 5) (fr := (0, 0)) (heap_alloc_new wr _)) (by simp [Value.oneCell']) (by omega) (by unfold maxLen; omega) (by omega) (by simp; omega) (wr.heap.size + 1) (by simp) ?_)
          intro r cap w1 hown1 hg1 hat1 hlt1
          rw [HM.out] at hown1
          obtain ⟨hroom, ha1⟩ := Room.of_append hwr H2.out ht _ hown1 hg1
          rw [← HM.out] at hroom
          have k0 := ha1.at_ hwr.hv
          have f0 := ha1.frozen o
          have HROOM := Lib.hid hroom
          have HKP0 : Hid (Kp (fun k => k = g ∨ sv.ownBlock = some k) w (w1.setCell ⟨g, o, none⟩ (.slice (some ⟨r, 0, none⟩) (M + 1) cap))) := by
            refine Kp.setCell (Kp.grown (hkp.alloc _) hg1 ?_) (Or.inl (Or.inl rfl)) _
            intro x hx he
            rcases HRL.out x he with h | h
            · exact Or.inr h
            · omega
          have HRL2 : Hid (∀ k, (Value.slice (some ⟨r, 0, none⟩) (M + 1) cap).ownBlock = some k → sv.ownBlock = some k ∨ w.heap.size ≤ k) := by
            intro k hk
            have hk : r = k := by simpa [Value.ownBlock] using hk
            subst hk
            rcases hat1 with h | h
            · exact HRL.out _ h
            · have := hkp.size; exact Or.inr (by omega)
          clear hroom hown1 hg1 hat1 hlt1 hrow h0 h1 hwr hkp ha1
          go_wp2_with fail
          obtain ⟨w2, hw2⟩ : ∃ w2, w2 = w1.setCell ⟨g, o, none⟩ (.slice (some ⟨r, 0, none⟩) (M + 1) cap) := ⟨_, rfl⟩
          rw [← hw2] at HROOM HKP0 ⊢
          clear hw2 k0 f0
          have hroom := HROOM.out
          have h0 := hroom.arr.at_ hroom.hv
          have h1 := hroom.arr.at_ hroom.hn
          have hc := hroom.cell
          have hfz := own_frozen hroom.own (M + 1 - 1)
          have hne := hroom.ne ht
          have HS := Lib.hid (hroom.step ht (ibit v j))
          rw [← HQ.out] at HS
          have hby := byteAt_lt D (D.length / 8)
          have hor := shl_or (byteAt D (D.length / 8)) q (D.length % 8) hby hq2 (Nat.mod_lt _ (by omega))
          obtain ⟨x, hx⟩ : ∃ x, x = byteAt D (D.length / 8) := ⟨_, rfl⟩
          rw [← hx] at hc hby hor HS
          obtain ⟨y, hy⟩ : ∃ y, y = x ||| q * 2 ^ (7 - D.length % 8) := ⟨_, rfl⟩
          rw [← hy] at hor HS
          have HX := Lib.hid hx
          have HY := Lib.hid hy
          clear hx hy HROOM
          rw [show M + 1 - 1 = M by omega] at hc hfz HS
          rw [H2.out, show (q : Int) * 2 ^ (7 - 0) % 256 = (q : Int) * 128 by omega] at hor
          go_region
          obtain ⟨w3, hw3⟩ : ∃ w3, w3 = (w2.setCell ⟨r, M, none⟩ (.int .u8 (y : Int))).drew := ⟨_, rfl⟩
          rw [← hw3] at HS ⊢
          have A3 : Arr w3 g t (cs'.setIfInBounds o (.slice (some ⟨r, 0, none⟩) (M + 1) cap)) := by rw [hw3]; exact (hroom.arr.far (p := ⟨r, M, none⟩) hne _).drew
          have k1 := A3.at_ hroom.hn
          have f1 := A3.frozen (o + 1)
          have HKP : Hid (Kp (fun k => k = g ∨ sv.ownBlock = some k) w (w3.setCell ⟨g, o + 1, none⟩ (.int .i64 (D.length + 1 : Int)))) := by
            refine Kp.setCell ?_ (Or.inl (Or.inl rfl)) _
            rw [hw3]
            exact Kp.drew (Kp.setCell HKP0.out (by rcases HRL2.out r rfl with h | h; exact Or.inl (Or.inr h); exact Or.inr h) _)
          clear hw3 h0 h1 hc hfz hor hroom A3 hbit hb7
          go_wp2_with fail
          go_roundw
          case rel => exact ⟨(j : Int) - 1, D ++ [ibit v j], _, _, by omega, by omega, rfl, by rw [show ((j : Int) - 1 + 1).toNat = j by omega]; exact HD2, HS.out, HKP.out, HRL2.out, (HOF.out.at0 _).at1 _⟩
          case measure => simp [intOf]
  · obtain rfl : n = 0 := by omega
    have HR : Hid (PutPostF w base g t o cs sv (C ++ putBits v 0) w) := ⟨cs, sv, by simpa [putBits] using hw, Kp.refl _ _, fun k hk => Or.inl hk, OffSame.refl _ _⟩
    clear hw hl
    go_enter Try.func37, Try.ntmps37
    go_wp2_with fail
    go_loop [6] (fun i => i = .int .i64 (-1)) (fun i => 0)
    case atStart => rfl
    case round =>
      subst hrel
      go_wp2_with fail
      go_end0
      exact ⟨rfl, HR.out⟩

end Go.Proofs.Ytnbamngancchmaa
