/- The document's example holds. And: bytes as a text; bytes that are written out. No conditions. -/
import Derived.Test.YtedjfbkfaioihaaAt
import Derived.Lib.SlBytesConst
import Derived.BigQuiet
namespace Go.Proofs.Ytedjfbkfaioihaa
open Go.RowKit Go.Shelf Go.Maps

/-! ### bytes as a text -/
def strN (l : List Nat) : ByteArray := strOfNums (l.map fun (n : Nat) => (n : Int))
theorem conv_rd {w : World} {B : Nat} {A : Option Addr} {n c : Nat} {l : List Nat} (h : Rd w B A n (l.map bv)) : (convert 31 9 (.slice A n c)).run Try.prog w = .ok (.string (strN l)) w := by
  have hl : l.length = n := by have := h.1; simpa using this
  rcases Nat.eq_zero_or_pos n with h0 | h0
  · subst h0
    have : l = [] := List.eq_nil_of_length_eq_zero hl
    subst this
    rw [run_convert_bytes_string w 31 9 5 A 0 c Try.underlying31 Try.underlying5 Try.underlying9]
    rcases A with _ | ad
    · simp [Conv.bytesToString]; rfl
    · simp [Conv.bytesToString, loadCells, loadCellsFrom]; rfl
  · obtain ⟨b, off, rfl, _, hc⟩ := h.2 h0
    refine run_convert_bytes_arg w 31 5 Try.underlying31 Try.underlying5 b off n c (l.map fun (n : Nat) => (n : Int)) (by simpa using hl) (fun i hi => hc i _ ?_) 9 Try.underlying9
    have hi2 : i < l.length := by omega
    simp [bv, List.getD, hi2]
theorem conv_own {w : World} {base n : Nat} {v : Value} {l : List Nat} (h : w.ownsRow base 5 1 v n (l.map bv)) : (convert 31 9 v).run Try.prog w = .ok (.string (strN l)) w := by
  obtain ⟨A, c, rfl, hr, _⟩ := Rd.of_own h
  exact conv_rd hr
/-- Bytes that are written out, as the program lays them. -/
theorem Try.lit (w : World) (C : Array Value) (n c : Nat) : (convert 31 31 (.slice (some ⟨w.heap.size, 0, none⟩) n c)).run Try.prog (w.alloc (.cells C 5)) = .ok (.slice (some ⟨w.heap.size, 0, none⟩) n c) (w.alloc (.cells C 5 (C.size, C.size + 1))) :=
  Lib.run_convert_bytes_const (P := Try.prog) w 31 5 C n c Try.underlying31 Try.underlying5
theorem lit_rd (w : World) (l : List Nat) (fr : Nat × Nat) : Rd (w.alloc (.cells (l.map bv).toArray 5 fr)) (w.alloc (.cells (l.map bv).toArray 5 fr)).heap.size (some ⟨w.heap.size, 0, none⟩) l.length (l.map bv) :=
  ⟨by simp, fun _ => ⟨w.heap.size, 0, rfl, by simp, fun j u hj => by rw [Nat.zero_add, World.cell?_alloc_mark]; simpa using hj⟩⟩
theorem own_slice {w : World} {base : Nat} {e : TypeId} {size n : Nat} {v : Value} {xs : List Value} (h : w.ownsRow base e size v n xs) : ∃ A c, v = .slice A n c := by
  rcases h.2 with ⟨rfl, rfl⟩ | ⟨g', cap, cur, rfl, _⟩
  · exact ⟨none, 0, rfl⟩
  · exact ⟨_, _, rfl⟩

set_option maxRecDepth 100000 in
set_option maxHeartbeats 4000000 in
theorem alive11 (w : World) : Calls Try.prog 11 #[] w fun e w' => e = .returned (.bool true) ∧ Below w.heap.size w w' := by
  have kc := Try.lit
  go_enter Try.func11, Try.ntmps11
  go_wp2_with fail
  refine (At.new 1000 (Below.refl _ w)).mono ?_
  rintro e w1 ⟨D, rfl, h1⟩
  have c1 := h1.create nA (by decide) (by decide) (by decide) (by decide)
  unfold nA at c1
  go_wp2_with fail
  refine c1.mono ?_
  clear c1
  rintro e w2 ⟨rfl, h2⟩
  have h2' : At w w2 D ex1 := h2
  have h2b := h2'.below ((Below.refl _ w2).alloc (Nat.le_refl _) (.cells ([97, 98, 99].map bv).toArray 5 (3, 4)))
  have c1 := h2b.append nA _ 3 [97, 98, 99] (lit_rd w2 [97, 98, 99] (3, 4)) (by decide) (by decide) (by decide) (by decide) (by decide) (by decide)
  unfold nA at c1
  go_wp2_with fail
  refine c1.mono ?_
  clear c1 h2 h2b
  rintro e w3 ⟨rfl, h3⟩
  have h3' : At w w3 D ex2 := h3
  have c1 := h3'.sync nA (by decide) (by decide) (by decide)
  unfold nA at c1
  go_wp2_with fail
  refine c1.mono ?_
  clear c1 h3
  rintro e w4 ⟨rfl, h4⟩
  have h4' : At w w4 D ex3 := h4
  have c1 := h4'.syncdir (by decide)
  go_wp2_with fail
  refine c1.mono ?_
  clear c1 h4
  rintro e w5 ⟨rfl, h5⟩
  have h5' : At w w5 D ex4 := h5
  have h5b := h5'.below ((Below.refl _ w5).alloc (Nat.le_refl _) (.cells ([100, 101].map bv).toArray 5 (2, 3)))
  have c1 := h5b.append nA _ 2 [100, 101] (lit_rd w5 [100, 101] (2, 3)) (by decide) (by decide) (by decide) (by decide) (by decide) (by decide)
  unfold nA at c1
  go_wp2_with fail
  refine c1.mono ?_
  clear c1 h5 h5b
  rintro e w6 ⟨rfl, h6⟩
  have h6' : At w w6 D ex5 := h6
  have hA : Arr (w6.alloc (.cells #[.int .i64 1, .int .i64 1] 3)) w6.heap.size 3 (([1, 1] : List Int).map (Value.int .i64)).toArray := Arr.new w6 3 _
  have c1 := h6'.crash_new (w6.alloc (.cells #[.int .i64 1, .int .i64 1] 3)) w6.heap.size 2 [1, 1] ((Below.refl _ w6).alloc (Nat.le_refl _) _) hA (Nat.le_refl _) rfl (by decide) (by decide) (by decide)
  go_wp2_with fail
  refine c1.mono ?_
  clear c1 h6 hA
  rintro e w7 ⟨rfl, h7⟩
  have h7' : At w w7 D ex6 := h7
  have c1 := h7'.read nA (by decide) (by decide)
  unfold nA at c1
  go_wp2_with fail
  refine c1.mono ?_
  clear c1 h7
  rintro e w8 ⟨h8, v, rfl, hown, _⟩
  have e1 : readE ex6 ⟨#[97]⟩ = 0 := ex_ok.1
  have e2 : readB ex6 ⟨#[97]⟩ = [97, 98, 99, 193] := ex_ok.2.1
  rw [e2] at hown
  rw [e1]
  obtain ⟨A, c, rfl⟩ := own_slice hown
  have hcv : (convert 31 9 (.slice A 4 c)).run Try.prog w8 = .ok (.string ⟨#[97, 98, 99, 193]⟩) w8 := conv_own hown
  have hst := h8.steps
  rw [ex_ok.2.2] at hst
  have HB := Lib.hid h8.1
  clear hown h8 h7' h6' h5' h4' h3' h2' h1
  go_wp2_with fail
  refine (num17 _ _).mono ?_
  rintro e w9 ⟨rfl, hw9⟩
  rw [hw9]
  clear hw9 w9
  go_wp2_with fail
  refine hst.mono ?_
  rintro e w9 ⟨rfl, hw9⟩
  rw [hw9]
  clear hw9 w9 hst
  go_wp2_with fail
  go_ret
  exact ⟨rfl, HB.out⟩
end Go.Proofs.Ytedjfbkfaioihaa
