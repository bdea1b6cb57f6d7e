/- What lysimeterref4.Reader.Get answers: a number from bits, or error 5. Conditions: at most 64 bits at once, at most 10^6 in all. -/
import Derived.Test.YtnbamngancchmaaRefOf
import Derived.BigQuiet
import Derived.Deep.QuietTactic
namespace Go.Proofs.Ytnbamngancchmaa
open Go.RowKit PB PS

/-- The reference's reader, in block g. -/
structure Rr (w : World) (g : Nat) (A : Option Addr) (N c : Nat) (bs : List Bool) (pos : Nat) : Prop where
  arr : Arr w g 84 #[.slice A N c, .int .i64 (pos : Int)]
  rd : Rd w g A N (bs.map Value.bool)
  le : pos ≤ N
theorem Rr.drewN {w : World} {g : Nat} {A : Option Addr} {N c : Nat} {bs : List Bool} {pos : Nat} (h : Rr w g A N c bs pos) (k : Nat) : Rr (w.drewN k) g A N c bs pos := ⟨h.arr.drewN k, h.rd.drewN k, h.le⟩
def rgetV (bs : List Bool) (pos n : Nat) : Int := match getAt bs pos n with | some v => wrap64 (v : Int) | none => 0
def rgetE (bs : List Bool) (pos n : Nat) : Int := if (getAt bs pos n).isSome then 0 else 5
def rgetP (bs : List Bool) (pos n : Nat) : Nat := if (getAt bs pos n).isSome then pos + n else pos
def RgetPost (w : World) (g : Nat) (A : Option Addr) (N c : Nat) (bs : List Bool) (pos n : Nat) (r : Ending) (w' : World) : Prop :=
  r = .returned (.tuple #[.int .i64 (rgetV bs pos n), .int .i64 (rgetE bs pos n)]) ∧ Rr w' g A N c bs (rgetP bs pos n) ∧ Kp (fun x => x = g) w w'

set_option maxRecDepth 100000 in
set_option maxHeartbeats 1000000 in
theorem rget_any (g N c pos m : Nat) (A : Option Addr) (bs : List Bool) (w : World) (h : Rr w g A N c bs pos) (hN : N ≤ 1000000) (hm : m ≤ 64) :
    Calls Try.prog 50 #[.pointer (some ⟨g, 0, none⟩), .int .i64 m] w (RgetPost w g A N c bs pos m) := by
  have hl : bs.length = N := by have := h.rd.1; simpa using this
  have c0 : w.cell? ⟨g, 0, none⟩ = some (.slice A N c) := h.arr.at_ (i := 0) rfl
  have c1 : w.cell? ⟨g, 1, none⟩ = some (.int .i64 (pos : Int)) := h.arr.at_ (i := 1) rfl
  have f1 := h.arr.frozen 1
  have hle := h.le
  have HL := Lib.hid hl
  have HH := Lib.hid h
  by_cases hin : pos + m ≤ N
  · have HG : Hid (getAt bs pos m = some (natOf ((bs.drop pos).take m))) := by
      show _ = _
      unfold getAt; rw [if_pos (by omega)]
    clear hl h
    go_enter Try.func50, Try.ntmps50
    go_wp2_with fail
    go_quiet (fail)
    go_wp2_with fail
    go_loopw [6, 7] (fun v i wr => ∃ k : Nat, k ≤ m ∧ i = .int .i64 k ∧ v = .int .u64 ((natOf ((bs.drop pos).take k) : Nat) : Int) ∧ Hid (∃ j, wr = w.drewN j)) (fun _ i _ => m - (intOf i).toNat)
    case atStart => exact ⟨0, Nat.zero_le _, rfl, rfl, ⟨_, rfl⟩⟩
    case round =>
      obtain ⟨k, hk, rfl, rfl, HW⟩ := hrel
      obtain ⟨j, rfl⟩ := HW.out
      by_cases hlt : k < m
      · obtain ⟨b, off, rfl, hbg, hc⟩ := HH.out.rd.2 (by omega)
        have hcx := hc (pos + k) (.bool (bs.getD (pos + k) false)) (by
          have : pos + k < bs.length := by rw [HL.out]; omega
          simp [List.getD, this])
        obtain ⟨bb, hbb⟩ : ∃ bb, bb = bs.getD (pos + k) false := ⟨_, rfl⟩
        rw [← hbb] at hcx
        obtain ⟨v, hv⟩ : ∃ v, v = natOf ((bs.drop pos).take k) := ⟨_, rfl⟩
        rw [← hv]
        have hvl : v < 9223372036854775808 := by
          have h1 := natOf_lt ((bs.drop pos).take k)
          have h2 : ((bs.drop pos).take k).length ≤ 63 := by rw [List.length_take]; omega
          have h3 : 2 ^ ((bs.drop pos).take k).length ≤ 2 ^ 63 := Nat.pow_le_pow_right (by omega) h2
          omega
        have HQ : Hid (natOf ((bs.drop pos).take (k + 1)) = 2 * v + b2n bb) := by
          show _ = _
          have hlB : pos + k < bs.length := by rw [HL.out]; omega
          have e1 : (bs.drop pos).take (k + 1) = (bs.drop pos).take k ++ [bs[pos + k]] := by
            rw [List.take_succ_eq_append_getElem (by rw [List.length_drop]; omega), List.getElem_drop]
          rw [e1, natOf_snoc, ← hv, hbb]
          simp [List.getD, hlB]
        have hor : bits .or .u64 ((v : Int) * 2) 1 = ((2 * v + 1 : Nat) : Int) := u64_join v 1 hvl (by omega)
        have hrd := HH.out
        clear hv hbb hc
        cases bb with
        | false =>
          have HQ2 : Hid (natOf ((bs.drop pos).take (k + 1)) = 2 * v) := HQ.out
          go_wp2_with fail
          go_quiet (fail)
          go_wp2_with fail
          go_roundw
          case rel => exact ⟨k + 1, by omega, by go_num, by rw [HQ2.out]; go_num, ⟨_, rfl⟩⟩
          case measure => simp [intOf]; omega
        | true =>
          have HQ2 : Hid (natOf ((bs.drop pos).take (k + 1)) = 2 * v + 1) := HQ.out
          go_wp2_with fail
          go_quiet (fail)
          go_wp2_with fail
          go_roundw
          case rel => exact ⟨k + 1, by omega, by go_num, by rw [HQ2.out]; go_num, ⟨_, rfl⟩⟩
          case measure => simp [intOf]; omega
      · obtain rfl : k = m := by omega
        obtain ⟨v, hv⟩ : ∃ v, v = natOf ((bs.drop pos).take k) := ⟨_, rfl⟩
        rw [← hv]
        have HG2 : Hid (getAt bs pos k = some v) := by show _ = _; rw [HG.out, hv]
        have hvl : v < 18446744073709551616 := by
          have h1 := natOf_lt ((bs.drop pos).take k)
          have h2 : ((bs.drop pos).take k).length ≤ 64 := by rw [List.length_take]; omega
          have h3 : 2 ^ ((bs.drop pos).take k).length ≤ 2 ^ 64 := Nat.pow_le_pow_right (by omega) h2
          omega
        have HR : ∀ i : Int, Hid (i = (pos : Int) + k → Rr ((w.drewN j).setCell ⟨g, 1, none⟩ (.int .i64 i)) g A N c bs (pos + k) ∧ Kp (fun x => x = g) w ((w.drewN j).setCell ⟨g, 1, none⟩ (.int .i64 i))) := by
          rintro _ rfl
          refine ⟨⟨?_, ?_, by omega⟩, Kp.setCell (S := fun x => x = g) (p := ⟨g, 1, none⟩) ((Kp.refl (fun x => x = g) w).drewN j) (Or.inl rfl) _⟩
          · have := (HH.out.drewN j).arr.set 1 (.int .i64 ((pos : Int) + k))
            exact this
          · exact (HH.out.drewN j).rd.keep fun y hy => Below.heap_setCell (w.drewN j) ⟨g, 1, none⟩ _ y (by show y ≠ g; omega)
        clear hv
        go_wp2_with fail
        go_ret2
        refine ⟨?_, ?_⟩
        · unfold rgetV rgetE
          rw [HG2.out]; rfl
        · unfold rgetP
          rw [HG2.out]
          exact (HR _).out rfl
  · have HG : Hid (getAt bs pos m = none) := by
      show _ = _
      unfold getAt; rw [if_neg (by omega)]
    clear hl h
    go_enter Try.func50, Try.ntmps50
    go_wp2_with fail
    go_quiet (fail)
    go_wp2_with fail
    go_ret2
    refine ⟨?_, ?_, (Kp.refl _ _).drewN _⟩
    · unfold rgetV rgetE
      rw [HG.out]; rfl
    · unfold rgetP
      rw [HG.out]
      exact HH.out.drewN _
end Go.Proofs.Ytnbamngancchmaa
