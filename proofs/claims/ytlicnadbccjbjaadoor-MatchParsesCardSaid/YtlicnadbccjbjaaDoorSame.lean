/- What SameLabels answers on labels that are the same, what Big and Lent answer. Conditions: at most 10^6 labels. -/
import Derived.Test.YtlicnadbccjbjaaDoorMake
import Derived.BigQuiet
namespace Go.Proofs.YtlicnadbccjbjaaDoor
open Go.RowKit LB

set_option maxRecDepth 100000 in
set_option maxHeartbeats 1000000 in
theorem same_any (A1 A2 : Option Addr) (n c1 B1 c2 B2 : Nat) (l : List Lab) (w : World) (h1 : Lv w B1 A1 n l) (h2 : Lv w B2 A2 n l) (hn : n ≤ 1000000) :
    Calls Tryd.prog 15 #[.slice A1 n c1, .slice A2 n c2] w fun e w' => e = .returned (.bool true) ∧ ∃ k, w' = w.drewN k := by
  go_enter Tryd.func15, Tryd.ntmps15
  go_wp2_with fail
  go_loopw [5] (fun i wr => ∃ k : Nat, k ≤ n ∧ i = .int .i64 k ∧ ∃ j, wr = w.drewN j) (fun i _ => n - (intOf i).toNat)
  case atStart => exact ⟨0, Nat.zero_le _, rfl, 0, rfl⟩
  case round =>
    obtain ⟨k, hk, rfl, j, rfl⟩ := hrel
    by_cases hlt : k < n
    · obtain ⟨x, hx⟩ : ∃ x, l[k]? = some x := ⟨_, List.getElem?_eq_getElem (by rw [h1.1]; exact hlt)⟩
      obtain ⟨b, off, rfl, _, hc⟩ := (h1.drewN j).at2 hlt
      obtain ⟨b2, off2, rfl, _, hc2⟩ := (h2.drewN j).at2 hlt
      obtain ⟨c0, c1'⟩ := hc k x hx
      obtain ⟨d0, d1⟩ := hc2 k x hx
      obtain ⟨xn, xv⟩ := x
      obtain ⟨w2, hw2⟩ : ∃ w2, w2 = w.drewN j := ⟨_, rfl⟩
      have HW := Lib.hid hw2
      rw [← hw2] at c0 d0 c1' d1 ⊢
      have e1 : (xn.toList == xn.toList) = true := by simp
      have e2 : (xv.toList == xv.toList) = true := by simp
      clear hx hc hc2 hw2
      go_wp2_with fail
      go_quiet (fail)
      go_wp2_with fail
      go_roundw
      case rel => exact ⟨k + 1, by omega, by go_num, _, by rw [HW.out]; exact World.drewN_drewN _ _ _⟩
      case measure => simp [intOf]; omega
    · obtain rfl : k = n := by omega
      go_wp2_with fail
      go_ret
      exact ⟨rfl, j, rfl⟩

/-- How much labels are. -/
def tot (l : List Lab) : Nat := (l.map fun x => 1 + x.1.size + x.2.size).sum
theorem tot_take {l : List Lab} {k : Nat} {x : Lab} (h : l[k]? = some x) : tot (l.take (k + 1)) = tot (l.take k) + 1 + x.1.size + x.2.size := by
  obtain ⟨hk, he⟩ := List.getElem?_eq_some_iff.1 h
  unfold tot
  rw [List.take_succ_eq_append_getElem hk, he, List.map_append, List.sum_append]
  simp; omega
theorem tot_le (l : List Lab) (k : Nat) : tot (l.take k) ≤ tot l := by
  have h : tot l = tot (l.take k) + tot (l.drop k) := by
    unfold tot
    rw [← List.sum_append, ← List.map_append, List.take_append_drop]
  omega
theorem tot_mem {l : List Lab} {x : Lab} (h : x ∈ l) : x.1.size ≤ tot l ∧ x.2.size ≤ tot l := by
  obtain ⟨k, hk⟩ := List.getElem?_of_mem h
  have h1 := tot_take hk
  have h2 := tot_le l (k + 1)
  omega
theorem tot_len (l : List Lab) : l.length ≤ tot l := by
  induction l with
  | nil => exact Nat.zero_le _
  | cons a l ih => unfold tot at ih ⊢; simp only [List.map_cons, List.sum_cons, List.length_cons]; omega

set_option maxRecDepth 100000 in
set_option maxHeartbeats 1000000 in
theorem big_any (A : Option Addr) (n c B : Nat) (l : List Lab) (w : World) (hr : Lv w B A n l) (hz : ∀ x ∈ l, x.1.size ≤ 1000000000000000 ∧ x.2.size ≤ 1000000000000000) (hn : n ≤ 1000000000000000) :
    Calls Tryd.prog 9 #[.slice A n c] w fun e w' => e = .returned (.bool (decide (4000 < tot l))) ∧ ∃ k, w' = w.drewN k := by
  go_enter Tryd.func9, Tryd.ntmps9
  go_wp2_with fail
  go_loopw [3, 4] (fun a i wr => ∃ k : Nat, k ≤ n ∧ a = .int .i64 (tot (l.take k) : Nat) ∧ i = .int .i64 k ∧ ∃ j, wr = w.drewN j) (fun _ i _ => n - (intOf i).toNat)
  case atStart => exact ⟨0, Nat.zero_le _, rfl, rfl, 0, rfl⟩
  case round =>
    obtain ⟨k, hk, rfl, rfl, j, rfl⟩ := hrel
    obtain ⟨T, hT⟩ : ∃ T, T = tot (l.take k) := ⟨_, rfl⟩
    have HT := Lib.hid hT
    rw [← hT]
    by_cases hlt : k < n
    · obtain ⟨x, hx⟩ : ∃ x, l[k]? = some x := ⟨_, List.getElem?_eq_getElem (by rw [hr.1]; exact hlt)⟩
      have htk := tot_take hx
      rw [← hT] at htk
      obtain ⟨z1, z2⟩ := hz x (List.mem_of_getElem? hx)
      by_cases hbig : T ≤ 4000
      · have d4 : decide (((T : Nat) : Int) ≤ 4000) = true := decide_eq_true (by omega)
        obtain ⟨b, off, rfl, _, hc⟩ := (hr.drewN j).at2 hlt
        obtain ⟨c0, c1⟩ := hc k x hx
        obtain ⟨xn, xv⟩ := x
        have HTK := Lib.hid htk
        obtain ⟨w2, hw2⟩ : ∃ w2, w2 = w.drewN j := ⟨_, rfl⟩
        have HW := Lib.hid hw2
        rw [← hw2] at c0 c1 ⊢
        clear hx hc hw2 htk hT
        go_wp2_with fail
        go_quiet (fail)
        go_wp2_with fail
        go_roundw
        case rel => exact ⟨k + 1, by omega, by rw [HTK.out]; go_num, by go_num, _, by rw [HW.out]; exact World.drewN_drewN _ _ _⟩
        case measure => simp [intOf]; omega
      · have d4 : decide (((T : Nat) : Int) ≤ 4000) = false := decide_eq_false (by omega)
        have hfin : decide (4000 < tot l) = true := decide_eq_true (by have := tot_le l k; omega)
        have d5 : decide (4000 < ((T : Nat) : Int)) = true := decide_eq_true (by omega)
        have HFI := Lib.hid hfin
        clear hfin
        clear htk hT hx
        go_wp2_with fail
        go_ret
        exact ⟨by rw [HFI.out]; rfl, j, rfl⟩
    · obtain rfl : k = n := by omega
      have hall : l.take k = l := by rw [← hr.1]; exact List.take_length
      rw [hall] at hT
      by_cases hbig : T ≤ 4000
      · have hfin : decide (4000 < tot l) = false := decide_eq_false (by omega)
        have d5 : decide (4000 < ((T : Nat) : Int)) = false := decide_eq_false (by omega)
        have HFI := Lib.hid hfin
        clear hfin
        clear hT
        go_wp2_with fail
        go_ret
        exact ⟨by rw [HFI.out]; rfl, j, rfl⟩
      · have hfin : decide (4000 < tot l) = true := decide_eq_true (by omega)
        have d5 : decide (4000 < ((T : Nat) : Int)) = true := decide_eq_true (by omega)
        have HFI := Lib.hid hfin
        clear hfin
        clear hT
        go_wp2_with fail
        go_ret
        exact ⟨by rw [HFI.out]; rfl, j, rfl⟩
end Go.Proofs.YtlicnadbccjbjaaDoor
