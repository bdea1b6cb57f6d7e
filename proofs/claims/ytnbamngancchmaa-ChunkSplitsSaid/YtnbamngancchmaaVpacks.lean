/- What values.Pack answers: the error, and the bytes in new memory. Conditions: at most 10^9 numbers. And: the example of the document packs as it says. -/
import Derived.Test.YtnbamngancchmaaVpack
import Derived.Test.YtnbamngancchmaaLaw
namespace Go.Proofs.Ytnbamngancchmaa
open Go.RowKit PB PV

theorem Pk.made (w : World) (base : Nat) : Pk (w.alloc (.cells #[.int .i64 0, .int .i64 0, .bool false, .slice none 0 0, .int .i64 0] 65)) base w.heap.size #[.int .i64 0, .int .i64 0, .bool false, .slice none 0 0, .int .i64 0] (.slice none 0 0) [] none :=
  ⟨⟨Arr.new _ _ _, rfl, rfl, World.ownsRow_nil _ _ _ _⟩, rfl, 0, 0, rfl, rfl, fun _ h => by cases h⟩
theorem u64_wrap_un (v : Int) : IntKind.u64.wrap v = (PV.un v : Int) := by
  have : IntKind.u64.wrap v = v % 18446744073709551616 := by simp [IntKind.wrap, IntKind.bits, IntKind.signed]
  rw [this]; unfold PV.un; omega
theorem xor_xat (l : List Int) (k : Nat) : bits .xor .u64 (IntKind.u64.wrap (l.getD k 0)) (IntKind.u64.wrap (l.getD (k - 1) 0)) = ((PV.xat l k : Nat) : Int) := by
  rw [u64_wrap_un, u64_wrap_un, u64_xor_nat _ _ (un_lt _) (un_lt _)]; rfl

/-- What Pack answers. -/
def VPost (w : World) (l : List Int) (r : Ending) (w' : World) : Prop :=
  ∃ v, r = .returned (.tuple #[v, .int .i64 (packEV l)]) ∧ w'.ownsRow w.heap.size 5 1 v (packBV l).length ((packBV l).map bv) ∧ Below w.heap.size w w'

set_option maxRecDepth 100000 in
set_option maxHeartbeats 1000000 in
theorem vpack_any (A : Option Addr) (n c B : Nat) (l : List Int) (w : World) (hr : Rd w B A n (ints l)) (hB : B ≤ w.heap.size) (hn : n ≤ 1000000000) :
    Calls Try.prog 16 #[.slice A n c] w (VPost w l) := by
  have hl := hr.len
  by_cases h120 : n ≤ 120
  · have HL := Lib.hid hl
    have HE : Hid (packEV l = 0) := by show _ = _; unfold packEV; rw [if_neg (by omega)]
    clear hl
    go_enter Try.func16, Try.ntmps16
    go_wp2_with fail
    go_loopw [14] (fun i wr => ∃ (k : Nat) (cs : Array Value) (sv : Value), k ≤ n ∧ i = .int .i64 k ∧ Hid (Pk wr w.heap.size w.heap.size cs sv (encV l k).1 (encV l k).2) ∧ Below w.heap.size w wr) (fun i _ => n - (intOf i).toNat)
    case atStart => exact ⟨0, _, _, Nat.zero_le _, rfl, Pk.made _ _, (Below.refl _ _).alloc (Nat.le_refl _) _⟩
    case round =>
      obtain ⟨k, cs, sv, hk, rfl, HPK, hbl⟩ := hrel
      have henc := encV_le l k
      by_cases hlt : k < n
      · obtain ⟨b, off, rfl, hb, hc⟩ := (hr.below (hbl.mono hB)).int hlt
        have hck := hc k hlt
        have hcp := hc (k - 1) (by omega)
        have hxor := xor_xat l k
        have HOK := Lib.hid (encV_ok l k)
        have hxl := xat_lt l k
        obtain ⟨X, hX⟩ : ∃ X, X = xat l k := ⟨_, rfl⟩
        rw [← hX] at hxor hxl
        have HXX := Lib.hid hX
        obtain ⟨x, hx⟩ : ∃ x, x = l.getD k 0 := ⟨_, rfl⟩
        obtain ⟨y, hy⟩ : ∃ y, y = l.getD (k - 1) 0 := ⟨_, rfl⟩
        rw [← hx] at hck hxor
        rw [← hy] at hcp hxor
        have HX := Lib.hid hx
        have HY := Lib.hid hy
        clear hx hy hc hX
        rcases Nat.eq_zero_or_pos k with h0 | h0
        · subst h0
          clear hxor hcp
          rw [Nat.add_zero] at hck
          go_wp2_with fail
          have hq := put_all w.heap.size w.heap.size 65 3 64 cs x sv [] wr (by omega) (by decide) hbl.size (by simp) HPK.out.wr
          refine hq.mono ?_
          rintro r w2 ⟨rfl, cs2, sv2, hwr2, hkp2, _, ho2⟩
          have HW : Hid (Pk w2 w.heap.size w.heap.size cs2 sv2 (encV l (0 + 1)).1 (encV l (0 + 1)).2 ∧ Below w.heap.size w w2) := by
            refine ⟨?_, hbl.trans (hkp2.below hbl.size ?_)⟩
            · rw [encV_one, ← HX.out]
              exact HPK.out.off hwr2 ho2
            · rintro y hy (h | h)
              · omega
              · have := HPK.out.wr.own.lt _ h; omega
          clear hq hwr2 hkp2 ho2 HPK hbl hck
          go_wp2_with fail
          go_roundw
          case rel => exact ⟨1, cs2, sv2, by omega, by go_num, HW.out.1, HW.out.2⟩
          case measure => simp [intOf]; omega
        · go_wp2_with fail
          have hq := vput_any w.heap.size w.heap.size X cs sv (encV l k).1 (encV l k).2 wr hbl.size (by omega) hxl HOK.out HPK.out
          refine hq.mono ?_
          rintro r w2 ⟨rfl, cs2, sv2, hpk2, hkp2, _⟩
          have HW : Hid (Pk w2 w.heap.size w.heap.size cs2 sv2 (encV l (k + 1)).1 (encV l (k + 1)).2 ∧ Below w.heap.size w w2) := by
            refine ⟨?_, hbl.trans (hkp2.below hbl.size ?_)⟩
            · rw [encV_succ l h0, ← HXX.out]
              exact hpk2
            · rintro y hy (h | h)
              · omega
              · have := HPK.out.wr.own.lt _ h; omega
          clear hq hpk2 hkp2 HPK hbl hck hcp hxor
          go_wp2_with fail
          go_roundw
          case rel => exact ⟨k + 1, cs2, sv2, by omega, by go_num, HW.out.1, HW.out.2⟩
          case measure => simp [intOf]; omega
      · obtain rfl : k = n := by omega
        have hby := bytes_any w.heap.size w.heap.size 65 3 cs sv (encV l k).1 wr HPK.out.wr (by omega)
        have HBB : Hid (packBV l = bytesOf (encV l k).1 ∧ packEV l = 0) := ⟨by unfold packBV; rw [if_pos HE.out, HL.out], HE.out⟩
        go_wp2_with fail
        refine hby.mono ?_
        rintro r w2 ⟨v, rfl, hown, hb2⟩
        have HF : Hid (w2.ownsRow w.heap.size 5 1 v (packBV l).length ((packBV l).map bv) ∧ Below w.heap.size w w2) := by
          rw [HBB.out.1]
          exact ⟨own_base hown hbl.size, hbl.trans (hb2.mono hbl.size)⟩
        clear hown hb2 hby HPK hbl
        go_wp2_with fail
        go_ret2
        refine ⟨v, ?_, HF.out.1, HF.out.2⟩
        rw [HBB.out.2]; rfl
  · have HE : Hid (packEV l = 2 ∧ packBV l = []) := by
      have h1 : packEV l = 2 := by unfold packEV; rw [if_pos (by omega)]
      refine ⟨h1, ?_⟩
      unfold packBV; rw [if_neg (by rw [h1]; decide)]
    clear hl
    go_enter Try.func16, Try.ntmps16
    go_wp2_with fail
    go_ret2
    refine ⟨.slice none 0 0, by rw [HE.out.1]; rfl, ?_, Below.refl _ _⟩
    rw [HE.out.2]
    exact World.ownsRow_nil _ _ _ _

theorem num17 (x : Int) (w : World) : Calls Try.prog 17 #[.int .i64 x] w fun e w' => e = .returned (.int .i64 x) ∧ w' = w := by
  go_enter Try.func17, Try.ntmps17
  go_wp2_with fail
  go_ret
  exact ⟨rfl, rfl⟩

theorem vpack2 : packEV [1, 1] = 0 ∧ strN (packBV [1, 1]) = ⟨#[0, 0, 0, 0, 0, 0, 0, 1, 0]⟩ := ⟨by kernel_rfl, by kernel_rfl⟩
set_option maxRecDepth 100000 in
theorem alive15 (w : World) : Calls Try.prog 15 #[] w fun e w' => e = .returned (.bool true) ∧ Below w.heap.size w w' := by
  obtain ⟨p1, p2⟩ := vpack2
  have HP := Lib.hid p2
  clear p2
  have hr : Rd (w.alloc (.cells #[.int .i64 1, .int .i64 1] 3)) (w.heap.size + 1) (some ⟨w.heap.size, 0, none⟩) 2 (ints [1, 1]) := by
    refine ⟨rfl, fun _ => ⟨_, _, rfl, by omega, fun j u hu => ?_⟩⟩
    rw [(Arr.new w 3 #[.int .i64 1, .int .i64 1]).cell, ← hu, Nat.zero_add]
    simp [ints]
  have hp := vpack_any (some ⟨w.heap.size, 0, none⟩) 2 2 (w.heap.size + 1) [1, 1] _ hr (by simp) (by omega)
  unfold VPost at hp
  rw [p1] at hp
  clear hr p1
  go_enter Try.func15, Try.ntmps15
  go_wp2_with fail
  refine hp.mono ?_
  rintro e w1 ⟨v, rfl, hown, hb⟩
  have hcv := conv_own hown
  rw [HP.out] at hcv
  have HB := Lib.hid hb
  clear hown hb
  go_wp2_with (go_at_call 17; refine (num17 _ _).mono ?_; rintro e w' ⟨rfl, rfl⟩)
  go_ret
  exact ⟨rfl, ((Below.refl _ _).alloc (Nat.le_refl _) _).trans (HB.out.mono (by simp))⟩
end Go.Proofs.Ytnbamngancchmaa
