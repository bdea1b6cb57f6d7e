/- The document's example holds. No conditions. -/
import Derived.Test.YtghklmhmhekjgaaTput
import Derived.Test.YtghklmhmhekjgaaExp
import Derived.Test.YtghklmhmhekjgaaList
namespace Go.Proofs.Ytghklmhmhekjgaa
open Go.RowKit Go.Maps Go.Shelf

theorem own_slice {w : World} {base : Nat} {e : TypeId} {size n : Nat} {v : Value} {xs : List Value} (h : w.ownsRow base e size v n xs) : ∃ A c, v = .slice A n c := by
  rcases h.2 with ⟨rfl, rfl⟩ | ⟨g', cap, cur, rfl, _⟩
  · exact ⟨none, 0, rfl⟩
  · exact ⟨_, _, rfl⟩

/-- The example's plan. -/
def night : Pl := ⟨⟨#[110, 105, 103, 104, 116]⟩, 0, 10, 3⟩
theorem night_ok : OkP night.n night.f night.t night.r := by
  exact ⟨by decide, by decide, by decide, by decide, by decide, by decide, by decide, by decide, by decide, by decide⟩
theorem night_put : putE night [] = 0 ∧ putL night [] = [night] := by
  unfold putE putL
  rw [if_pos night_ok, if_pos night_ok, if_neg (by simp), if_neg (by simp)]
  exact ⟨rfl, rfl⟩
theorem night_9 : actv 9 [night] = 3 := by decide
theorem night_10 : actv 10 [night] = 0 := by decide
theorem night_x : expN 10 [night] = 1 ∧ expL 10 [night] = [] := by decide

set_option maxRecDepth 100000 in
set_option maxHeartbeats 4000000 in
theorem alive7 (w : World) : Calls Try.prog 7 #[] w fun e w' => e = .returned (.bool true) ∧ Below w.heap.size w w' := by
  go_enter Try.func7, Try.ntmps7
  go_wp2_with fail
  refine (new8 w).mono ?_
  rintro e w1 ⟨rfl, hT1, hb1⟩
  have hp := put10 (w.heap.size + 1) w.heap.size ⟨#[110, 105, 103, 104, 116]⟩ 0 10 3 [] w1 hT1 (by decide) (by decide)
  have hs1 := hT1.lt
  go_wp2_with fail
  refine hp.mono ?_
  unfold PPost
  rintro e w2 ⟨he, hT2, hk2⟩
  have e1 : putE ⟨⟨#[110, 105, 103, 104, 116]⟩, 0, 10, 3⟩ [] = 0 := night_put.1
  have e2 : putL ⟨⟨#[110, 105, 103, 104, 116]⟩, 0, 10, 3⟩ [] = [night] := night_put.2
  rw [e1] at he
  rw [e2] at hT2
  subst he
  have hb2 : Below w.heap.size w w2 := hb1.trans (hk2.below hb1.size (fun x hx e => by omega))
  clear hp e1 e2
  go_wp2_with fail
  refine (num11 _ _).mono ?_
  rintro e w3 ⟨rfl, hw3⟩
  rw [hw3]
  clear hw3 w3
  have ha9 := active12 (w.heap.size + 1) w.heap.size 9 [night] w2 hT2 (by decide)
  rw [night_9] at ha9
  go_wp2_with fail
  refine ha9.mono ?_
  rintro e w3 ⟨rfl, hb3⟩
  have hT3 := hT2.below hb3 hT2.lt.1 hT2.lt.2
  have ha10 := active12 (w.heap.size + 1) w.heap.size 10 [night] w3 hT3 (by decide)
  rw [night_10] at ha10
  clear ha9
  go_wp2_with fail
  refine ha10.mono ?_
  rintro e w4 ⟨rfl, hb4⟩
  have hT4 := hT3.below hb4 hT3.lt.1 hT3.lt.2
  have hx := expire21 (w.heap.size + 1) w.heap.size 10 [night] w4 hT4 (by decide)
  rw [night_x.1, night_x.2] at hx
  clear ha10
  go_wp2_with fail
  refine hx.mono ?_
  rintro e w5 ⟨rfl, hT5, hk5⟩
  have hl := list13 (w.heap.size + 1) w.heap.size [] w5 hT5 (by decide)
  clear hx
  have hb4' : Below w.heap.size w w4 := (hb2.trans (hb3.mono hb2.size)).trans (hb4.mono (Nat.le_trans hb2.size hb3.size))
  have hb5 : Below w.heap.size w w5 := hb4'.trans (hk5.below hb4'.size (fun x hx e => by omega))
  go_wp2_with fail
  refine hl.mono ?_
  rintro e w6 ⟨v, rfl, hown, hb6⟩
  obtain ⟨A, c, rfl⟩ := own_slice hown
  have HB := Lib.hid (hb5.trans (hb6.mono hb5.size))
  clear hown hb6 hb5 hb4' hk5 hT5 hT4 hT3 hb4 hb3 hb2 hk2 hT2 hT1 hb1 hl
  go_wp2_with fail
  go_ret
  exact ⟨rfl, HB.out⟩
end Go.Proofs.Ytghklmhmhekjgaa
