/- What varint.Put, and the reference's, answer: the bytes of a number, in new memory. No conditions. -/
import Derived.Test.YtghklmhmhekjgaaVarint
import Derived.Test.YtghklmhmhekjgaaProg
import Derived.Test.YtghklmhmhekjgaaWords
import Derived.Handy
import Derived.Deep.AppendLies
import Derived.WalkMore
namespace Go.Proofs.Ytghklmhmhekjgaa
open Go.RowKit PC
namespace PV
/-- Numbers as 64 bits, and back. -/
def un (v : Int) : Nat := (v % 18446744073709551616).toNat
theorem un_lt (v : Int) : un v < 18446744073709551616 := by unfold un; omega
theorem sg_un {v : Int} (h : -9223372036854775808 ≤ v ∧ v ≤ 9223372036854775807) : wrap64 (un v : Int) = v := by unfold un wrap64; omega
end PV
def bv (n : Nat) : Value := .int .u8 (n : Int)
theorem Try.info5 : (Try.prog.info? 5).map (fun i => (i.zero, i.size, i.bytes)) = some (some (.int .u8 0), 1, 1) := by kernel_rfl
theorem u64_wrap_un (v : Int) : IntKind.u64.wrap v = (PV.un v : Int) := by
  have : IntKind.u64.wrap v = v % 18446744073709551616 := by simp [IntKind.wrap, IntKind.bits, IntKind.signed]
  rw [this]; unfold PV.un; omega
theorem Rd.blen {w : World} {B : Nat} {A : Option Addr} {n : Nat} {l : List Nat} (h : Rd w B A n (l.map bv)) : l.length = n := by have := h.1; simpa using this
theorem Rd.byte {w : World} {B : Nat} {A : Option Addr} {n : Nat} {l : List Nat} (h : Rd w B A n (l.map bv)) {k : Nat} (hk : k < n) : ∃ b off, A = some ⟨b, off, none⟩ ∧ b < B ∧ ∀ j, j < n → w.cell? ⟨b, off + j, none⟩ = some (.int .u8 ((l.getD j 0 : Nat) : Int)) := by
  obtain ⟨b, off, e, hb, hc⟩ := h.2 (by omega)
  refine ⟨b, off, e, hb, fun j hj => hc j _ ?_⟩
  have hl : j < l.length := by have := h.1; simp at this; omega
  simp [List.getD, hl, bv]
theorem u8_low (u : Nat) : IntKind.u8.wrap (u : Int) = ((u % 256 : Nat) : Int) := by
  have : IntKind.u8.wrap (u : Int) = (u : Int) % 256 := by simp [IntKind.wrap, IntKind.bits, IntKind.signed]
  rw [this]; omega
theorem or128 (x : Nat) (hx : x < 256) : bits .or .u8 (x : Int) 128 = ((x % 128 + 128 : Nat) : Int) := by
  have := u8_or_nat x 128 hx (by omega)
  have e : x ||| 128 = x % 128 + 128 := by
    have h : ∀ y : Fin 256, y.1 ||| 128 = y.1 % 128 + 128 := by decide +kernel
    exact h ⟨x, hx⟩
  rw [e] at this
  exact this
theorem and127 (u : Nat) (hu : u < 18446744073709551616) : bits .and .u64 (u : Int) 127 = ((u % 128 : Nat) : Int) := by
  have := u64_and_nat u 127 hu (by omega)
  rw [show u &&& 127 = u % 128 from Nat.and_two_pow_sub_one_eq_mod u 7] at this
  exact this

theorem or128' (u : Nat) : bits .or .u8 ((u : Int) % 256) 128 = ((u % 128 + 128 : Nat) : Int) := by
  have h := or128 (u % 256) (Nat.mod_lt _ (by omega))
  rw [show u % 256 % 128 = u % 128 by omega] at h
  rw [← h]; congr 1
theorem or128'' (u : Nat) : bits .or .u8 ((u : Int) % 128) 128 = ((u % 128 + 128 : Nat) : Int) := by
  have h := or128 (u % 128) (by omega)
  rw [show u % 128 % 128 = u % 128 by omega] at h
  rw [← h]; congr 1
/-- What Put answers. -/
def VpPost (w : World) (v : Int) (r : Ending) (w' : World) : Prop :=
  ∃ x, r = .returned x ∧ w'.ownsRow w.heap.size 5 1 x (vput (PV.un v)).length ((vput (PV.un v)).map bv) ∧ Below w.heap.size w w'

set_option maxRecDepth 100000 in
set_option maxHeartbeats 1000000 in
theorem vint_put (v : Int) (w : World) : Calls Try.prog 36 #[.int .i64 v] w (VpPost w v) := by
  obtain ⟨i0, hi, hz0, hz1, hz2⟩ := info_parts Try.info5
  have hun := u64_wrap_un v
  have hul := PV.un_lt v
  obtain ⟨U, hU⟩ : ∃ U, U = PV.un v := ⟨_, rfl⟩
  rw [← hU] at hun hul
  have HU := Lib.hid hU
  clear hU
  go_enter Try.func36, Try.ntmps36
  go_wp2_with fail
  go_loopw [3, 4] (fun s x wr => ∃ (done : List Nat) (u : Nat), x = .int .u64 (u : Int) ∧ u < 18446744073709551616 ∧ done.length ≤ 100 ∧ Hid (vput U = done ++ vput u) ∧ wr.ownsRow w.heap.size 5 1 s done.length (done.map bv) ∧ Below w.heap.size w wr) (fun _ x _ => (intOf x).toNat)
  case atStart => exact ⟨[], U, rfl, hul, by simp, rfl, World.ownsRow_nil _ _ _ _, Below.refl _ _⟩
  case round =>
    obtain ⟨done, u, rfl, hu, hd, HD, hown, hbl⟩ := hrel
    obtain ⟨k, hk⟩ : ∃ k, k = done.length := ⟨_, rfl⟩
    rw [← hk] at hown hd
    have HK := Lib.hid hk
    have hsz := hbl.size
    clear hk
    by_cases hlt : u < 128
    · have hw8 := u8_low u
      rw [Nat.mod_eq_of_lt (by omega)] at hw8
      have HF0 : Hid (vput U = done ++ [u]) := by show _ = _; rw [HD.out, vput_small hlt]
      clear HD
      go_wp2_with (at_builtin; refine wpList_append_lies _ rfl (.tmp 17) (.tmp 20) 36 rfl w.heap.size 5 i0 (.int .u8 0) 1 1 Try.underlying36 hi hz0 hz1 hz2 rfl (by decide) u3 k (done.map bv) rfl (hown.alloc _) ⟨wr.heap.size, 0, none⟩ 1 1 [.int .u8 (u : Int)] rfl rfl (cell_one_new wr _ 5) (by simp [Value.oneCell']) (by omega) (by unfold maxLen; omega) (by omega) (by simp; omega) (wr.heap.size + 1) (by simp) ?_; intro r cap w3 hown3 hg3 hat3 hlt3)
      have HF : Hid (w3.ownsRow w.heap.size 5 1 (.slice (some ⟨r, 0, none⟩) (k + 1) cap) (vput U).length ((vput U).map bv) ∧ Below w.heap.size w w3) := by
        rw [HF0.out]
        refine ⟨?_, (hbl.alloc hsz _).grown hg3 (by simp; omega) (fun x hx => (hown.lt x hx).1)⟩
        simpa [bv, ← HK.out] using hown3
      clear hown3 hg3 hat3 hlt3 hown hbl
      go_wp2_with fail
      go_ret
      exact ⟨_, rfl, by rw [← HU.out]; exact HF.out.1, HF.out.2⟩
    · have hw8 := u8_low u
      have hor := or128' u
      obtain ⟨X, hX⟩ : ∃ X, X = u % 128 + 128 := ⟨_, rfl⟩
      rw [← hX] at hor
      have HF0 : Hid (vput U = (done ++ [X]) ++ vput (u / 128)) := by
        show _ = _
        rw [HD.out, vput_big hlt hu, hX]; simp
      have HX := Lib.hid hX
      have hd2 : k ≤ 10 := by
        have h1 := vput_len U
        have h2 := congrArg List.length HF0.out
        have h3 := vput_len (u / 128)
        simp only [List.length_append, List.length_cons, List.length_nil, ← HK.out] at h2
        omega
      clear HD hX
      go_wp2_with (at_builtin; refine wpList_append_lies _ rfl (.tmp 9) (.tmp 13) 36 rfl w.heap.size 5 i0 (.int .u8 0) 1 1 Try.underlying36 hi hz0 hz1 hz2 rfl (by decide) u3 k (done.map bv) rfl (hown.alloc _) ⟨wr.heap.size, 0, none⟩ 1 1 [.int .u8 (X : Int)] rfl rfl (cell_one_new wr _ 5) (by simp [Value.oneCell']) (by omega) (by unfold maxLen; omega) (by omega) (by simp; omega) (wr.heap.size + 1) (by simp) ?_; intro r cap w3 hown3 hg3 hat3 hlt3)
      have HF : Hid (w3.ownsRow w.heap.size 5 1 (.slice (some ⟨r, 0, none⟩) (k + 1) cap) (done ++ [X]).length ((done ++ [X]).map bv) ∧ Below w.heap.size w w3) := by
        refine ⟨?_, (hbl.alloc hsz _).grown hg3 (by simp; omega) (fun x hx => (hown.lt x hx).1)⟩
        simpa [bv, ← HK.out] using hown3
      clear hown3 hg3 hat3 hlt3 hown hbl
      go_wp2_with fail
      go_roundw
      case rel => exact ⟨done ++ [X], u / 128, by go_num, by omega, by simp [← HK.out]; omega, HF0, HF.out.1, HF.out.2⟩
      case measure => simp [intOf]; omega
set_option maxRecDepth 100000 in
set_option maxHeartbeats 1000000 in
theorem rvint_put (v : Int) (w : World) : Calls Try.prog 38 #[.int .i64 v] w (VpPost w v) := by
  obtain ⟨i0, hi, hz0, hz1, hz2⟩ := info_parts Try.info5
  have hun := u64_wrap_un v
  have hul := PV.un_lt v
  obtain ⟨U, hU⟩ : ∃ U, U = PV.un v := ⟨_, rfl⟩
  rw [← hU] at hun hul
  have HU := Lib.hid hU
  clear hU
  go_enter Try.func38, Try.ntmps38
  go_wp2_with fail
  go_loopw [3, 4] (fun x s wr => ∃ (done : List Nat) (u : Nat), x = .int .u64 (u : Int) ∧ u < 18446744073709551616 ∧ done.length ≤ 100 ∧ Hid (vput U = done ++ vput u) ∧ wr.ownsRow w.heap.size 5 1 s done.length (done.map bv) ∧ Below w.heap.size w wr) (fun x _ _ => (intOf x).toNat)
  case atStart => exact ⟨[], U, rfl, hul, by simp, rfl, World.ownsRow_nil _ _ _ _, Below.refl _ _⟩
  case round =>
    obtain ⟨done, u, rfl, hu, hd, HD, hown, hbl⟩ := hrel
    obtain ⟨k, hk⟩ : ∃ k, k = done.length := ⟨_, rfl⟩
    rw [← hk] at hown hd
    have HK := Lib.hid hk
    have hsz := hbl.size
    clear hk
    by_cases hlt : u < 128
    · have hw8 := u8_low u
      rw [Nat.mod_eq_of_lt (by omega)] at hw8
      have HF0 : Hid (vput U = done ++ [u]) := by show _ = _; rw [HD.out, vput_small hlt]
      clear HD
      go_wp2_with (at_builtin; refine wpList_append_lies _ rfl (.tmp 18) (.tmp 21) 36 rfl w.heap.size 5 i0 (.int .u8 0) 1 1 Try.underlying36 hi hz0 hz1 hz2 rfl (by decide) u4 k (done.map bv) rfl (hown.alloc _) ⟨wr.heap.size, 0, none⟩ 1 1 [.int .u8 (u : Int)] rfl rfl (cell_one_new wr _ 5) (by simp [Value.oneCell']) (by omega) (by unfold maxLen; omega) (by omega) (by simp; omega) (wr.heap.size + 1) (by simp) ?_; intro r cap w3 hown3 hg3 hat3 hlt3)
      have HF : Hid (w3.ownsRow w.heap.size 5 1 (.slice (some ⟨r, 0, none⟩) (k + 1) cap) (vput U).length ((vput U).map bv) ∧ Below w.heap.size w w3) := by
        rw [HF0.out]
        refine ⟨?_, (hbl.alloc hsz _).grown hg3 (by simp; omega) (fun x hx => (hown.lt x hx).1)⟩
        simpa [bv, ← HK.out] using hown3
      clear hown3 hg3 hat3 hlt3 hown hbl
      go_wp2_with fail
      go_ret
      exact ⟨_, rfl, by rw [← HU.out]; exact HF.out.1, HF.out.2⟩
    · have hw8 := u8_low u
      have h127 := and127 u hu
      have hor := or128'' u
      obtain ⟨X, hX⟩ : ∃ X, X = u % 128 + 128 := ⟨_, rfl⟩
      rw [← hX] at hor
      have HF0 : Hid (vput U = (done ++ [X]) ++ vput (u / 128)) := by
        show _ = _
        rw [HD.out, vput_big hlt hu, hX]; simp
      have HX := Lib.hid hX
      have hd2 : k ≤ 10 := by
        have h1 := vput_len U
        have h2 := congrArg List.length HF0.out
        have h3 := vput_len (u / 128)
        simp only [List.length_append, List.length_cons, List.length_nil, ← HK.out] at h2
        omega
      clear HD hX
      go_wp2_with (at_builtin; refine wpList_append_lies _ rfl (.tmp 9) (.tmp 14) 36 rfl w.heap.size 5 i0 (.int .u8 0) 1 1 Try.underlying36 hi hz0 hz1 hz2 rfl (by decide) u4 k (done.map bv) rfl (hown.alloc _) ⟨wr.heap.size, 0, none⟩ 1 1 [.int .u8 (X : Int)] rfl rfl (cell_one_new wr _ 5) (by simp [Value.oneCell']) (by omega) (by unfold maxLen; omega) (by omega) (by simp; omega) (wr.heap.size + 1) (by simp) ?_; intro r cap w3 hown3 hg3 hat3 hlt3)
      have HF : Hid (w3.ownsRow w.heap.size 5 1 (.slice (some ⟨r, 0, none⟩) (k + 1) cap) (done ++ [X]).length ((done ++ [X]).map bv) ∧ Below w.heap.size w w3) := by
        refine ⟨?_, (hbl.alloc hsz _).grown hg3 (by simp; omega) (fun x hx => (hown.lt x hx).1)⟩
        simpa [bv, ← HK.out] using hown3
      clear hown3 hg3 hat3 hlt3 hown hbl
      go_wp2_with fail
      go_roundw
      case rel => exact ⟨done ++ [X], u / 128, by go_num, by omega, by simp [← HK.out]; omega, HF0, HF.out.1, HF.out.2⟩
      case measure => simp [intOf]; omega
end Go.Proofs.Ytghklmhmhekjgaa
