import Derived.Test.YtnbamngancchmaaLaw
import Derived.Deep.OwnRows
import Derived.BigQuiet
import Derived.Deep.QuietTactic
namespace Go.Proofs.Ytnbamngancchmaa
open Go.RowKit PB PS

theorem Try.info4 : (Try.prog.info? 4).map (fun i => (i.zero, i.size, i.bytes)) = some (some (.bool false), 1, 1) := by kernel_rfl
/-- The reference's bits: in the one cell of block g. -/
structure Wb (w : World) (base g : Nat) (sv : Value) (C : List Bool) : Prop where
  arr : Arr w g 72 #[sv]
  own : w.ownsRow base 4 1 sv C.length (C.map Value.bool)
  ge : base ≤ g
def RputPost (w : World) (base g : Nat) (C : List Bool) (w' : World) : Prop := (∃ sv', Wb w' base g sv' C) ∧ Below base w w'

set_option maxRecDepth 100000 in
set_option maxHeartbeats 1000000 in
theorem rput_any (base g n : Nat) (v : Int) (sv : Value) (C : List Bool) (w : World) (hn : n ≤ 64) (hl : C.length + n ≤ 1000000) (hw : Wb w base g sv C) :
    Calls Try.prog 42 #[.pointer (some ⟨g, 0, none⟩), .int .i64 v, .int .i64 n] w fun e w' => e = .returned (.tuple #[]) ∧ RputPost w base g (C ++ putBits v n) w' := by
  obtain ⟨i0, hi, hz0, hz1, hz2⟩ := info_parts Try.info4
  go_enter Try.func42, Try.ntmps42
  go_wp2_with fail
  go_loopw [6] (fun i wr => ∃ (i' : Int) (D : List Bool) (sv' : Value), -1 ≤ i' ∧ i' < 64 ∧ i = .int .i64 i' ∧ Hid (D ++ putBits v (i' + 1).toNat = C ++ putBits v n) ∧ Wb wr base g sv' D ∧ Below base w wr) (fun i _ => (intOf i + 1).toNat)
  case atStart => exact ⟨(n : Int) - 1, C, sv, by omega, by omega, rfl, by rw [show ((n : Int) - 1 + 1).toNat = n by omega]; exact rfl, hw, Below.refl _ _⟩
  case round =>
    obtain ⟨i, D, sv', hi0, hi1, rfl, HD, hwr, hbl⟩ := hrel
    by_cases hneg : i < 0
    · have hD := HD.out
      rw [show (i + 1).toNat = 0 by omega] at hD
      have HR : Hid (RputPost w base g (C ++ putBits v n) wr) := by
        refine ⟨⟨sv', ?_⟩, hbl⟩
        rw [← hD]
        simpa [putBits] using hwr
      clear hD hbl hwr HD hw
      go_wp2_with fail
      go_end0
      exact ⟨rfl, HR.out⟩
    · obtain ⟨j, rfl⟩ := Int.eq_ofNat_of_zero_le (show 0 ≤ i by omega)
      have hDl : D.length + 1 ≤ 1000000 := by
        have := congrArg List.length HD.out
        simp [putBits_length] at this; omega
      have h0 := hwr.arr.at_ (i := 0) rfl
      have f0 := hwr.arr.frozen 0
      have HD2 : Hid ((D ++ [ibit v j]) ++ putBits v j = C ++ putBits v n) := by
        have := HD.out
        rw [show ((j : Int) + 1).toNat = j + 1 by omega, putBits] at this
        show _ = _
        rw [← this]; simp
      obtain ⟨bb, hbb⟩ : ∃ bb, bb = ibit v j := ⟨_, rfl⟩
      obtain ⟨q, hq⟩ : ∃ q, q = b2n (ibit v j) := ⟨_, rfl⟩
      have hbit := u64_wrap_bit v j (by omega)
      rw [← hq] at hbit
      have hq1 : ((q : Int) == 1) = bb := by rw [hq, hbb]; cases ibit v j <;> rfl
      rw [← hbb] at HD2
      have hrow := hwr.own
      have hlB : base ≤ wr.heap.size := Nat.le_trans hwr.ge (Nat.le_of_lt hwr.arr.lt)
      obtain ⟨M, hM⟩ : ∃ M, M = D.length := ⟨_, rfl⟩
      rw [← hM] at hrow hDl
      have HM := Lib.hid hM
      clear hq HD hbb hM hw
      go_wp2_with (at_builtin; refine wpList_append_lies _ rfl (.tmp 21) (.tmp 29) 70 rfl base 4 i0 (.bool false) 1 1 Try.underlying70 hi hz0 hz1 hz2 rfl (by decide) sv' M (D.map Value.bool) rfl (hrow.alloc _) ⟨wr.heap.size, 0, none⟩ 1 1 [.bool bb] rfl rfl (World.news_of_block (cs := #[.bool bb]) (t := 4) (fr := (0, 0)) (heap_alloc_new wr _)) (by simp [Value.oneCell']) (by omega) (by unfold maxLen; omega) (by omega) (by simp; omega) (wr.heap.size + 1) (by simp) ?_)
      intro r cap w1 hown1 hg1 hat1 hlt1
      have a1 := (hwr.arr.alloc (.cells #[.bool bb] 4)).grown hg1 (own_ne hwr.own hwr.arr (by decide))
      have k0 := a1.at_ (i := 0) rfl
      have f1 := a1.frozen 0
      have HF : Hid (Wb (w1.setCell ⟨g, 0, none⟩ (.slice (some ⟨r, 0, none⟩) (M + 1) cap)) base g (.slice (some ⟨r, 0, none⟩) (M + 1) cap) (D ++ [bb]) ∧ Below base w (w1.setCell ⟨g, 0, none⟩ (.slice (some ⟨r, 0, none⟩) (M + 1) cap))) := by
        refine ⟨⟨a1.set 0 _, ?_, hwr.ge⟩, ((hbl.alloc hlB _).grown hg1 (by simp; omega) (fun x hx => (hwr.own.lt x hx).1)).setCell hwr.ge _⟩
        have h2 := own_far hown1 (p := ⟨g, 0, none⟩) (own_ne hown1 a1 (by decide)) (.slice (some ⟨r, 0, none⟩) (M + 1) cap)
        have e : (D ++ [bb]).length = M + 1 := by rw [HM.out]; simp
        rw [e, List.map_append]
        exact h2
      clear hown1 hg1 hat1 hlt1 hrow h0 hwr hbl a1 hbit hq1
      go_wp2_with fail
      go_roundw
      case rel => exact ⟨(j : Int) - 1, D ++ [bb], _, by omega, by omega, rfl, by rw [show ((j : Int) - 1 + 1).toNat = j by omega]; exact HD2, HF.out.1, HF.out.2⟩
      case measure => simp [intOf]
