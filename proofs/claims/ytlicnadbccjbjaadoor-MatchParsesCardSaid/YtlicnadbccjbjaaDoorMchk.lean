/- What match.Check, the reference's CheckMatch, match.value and the law's Big answer. Conditions: sizes within the form's reach. -/
import Derived.Test.YtlicnadbccjbjaaDoorMplain
import Derived.WalkSpells
namespace Go.Proofs.YtlicnadbccjbjaaDoor
open Go.RowKit LB

theorem known31 (k : Int) (w : World) : Calls Tryd.prog 51 #[.int .i64 k] w fun e w' => e = .returned (.bool (knownB k)) ∧ w' = w := by
  by_cases h1 : 1 ≤ k
  · by_cases h2 : k ≤ 4
    · have hr : knownB k = true := by simp [knownB, h1, h2]
      have HR := Lib.hid hr
      clear hr
      go_enter Tryd.func51, Tryd.ntmps51
      go_wp2_with fail
      go_ret
      exact ⟨by rw [HR.out]; rfl, rfl⟩
    · have hr : knownB k = false := by simp [knownB, h2]
      have HR := Lib.hid hr
      have d : decide (k ≤ 4) = false := decide_eq_false h2
      clear hr
      go_enter Tryd.func51, Tryd.ntmps51
      go_wp2_with fail
      go_ret
      exact ⟨by rw [HR.out]; rfl, rfl⟩
  · have hr : knownB k = false := by simp [knownB, h1]
    have HR := Lib.hid hr
    have d : decide (1 ≤ k) = false := decide_eq_false h1
    clear hr
    go_enter Tryd.func51, Tryd.ntmps51
    go_wp2_with fail
    go_ret
    exact ⟨by rw [HR.out]; rfl, rfl⟩

theorem val_none {l : List Lab} {n : ByteArray} {k : Nat} (h : l.length ≤ k) : valL (l.drop k) n = none := by
  rw [List.drop_eq_nil_of_le h]; rfl
set_option maxRecDepth 100000 in
set_option maxHeartbeats 1000000 in
theorem value44 (A : Option Addr) (n c B : Nat) (l : List Lab) (nm : ByteArray) (w : World) (hr : Lv w B A n l) (hB : B ≤ w.heap.size) (hn : n ≤ 1000000) :
    Calls Tryd.prog 57 #[.slice A n c, .string nm] w fun e w' => e = .returned (.tuple #[.string ((valL l nm).getD ⟨#[]⟩), .bool (valL l nm).isSome]) ∧ Below w.heap.size w w' := by
  go_enter Tryd.func57, Tryd.ntmps57
  go_wp2_with fail
  go_loopw [10] (fun i wr => ∃ k : Nat, k ≤ n ∧ i = .int .i64 k ∧ Hid (valL l nm = valL (l.drop k) nm) ∧ Below w.heap.size w wr) (fun i _ => n - (intOf i).toNat)
  case atStart => exact ⟨0, Nat.zero_le _, rfl, rfl, Below.refl _ _⟩
  case round =>
    obtain ⟨k, hk, rfl, hv, hb⟩ := hrel
    have hs := hb.size
    by_cases hlt : k < n
    · obtain ⟨x, hx⟩ : ∃ x, l[k]? = some x := ⟨_, List.getElem?_eq_getElem (by rw [hr.1]; exact hlt)⟩
      obtain ⟨b, off, rfl, hbb, hcc⟩ := (hr.below (hb.mono hB)).at2 hlt
      obtain ⟨p0, p1⟩ := hcc k x hx
      have hst := val_step (n := nm) hx
      obtain ⟨xn, xv⟩ := x
      by_cases he : xn = nm
      · have e1 : (xn.toList == nm.toList) = true := by rw [he]; simp
        have HV : Hid (valL l nm = some xv) := by
          show _ = _
          rw [hv.out, hst, if_pos he]
        clear hst he hx hcc
        go_wp2_with fail
        go_ret2
        exact ⟨by rw [HV.out]; rfl, hb.alloc hs _⟩
      · have e1 : (xn.toList == nm.toList) = false := by rw [eq_beq, decide_eq_false he]
        have HV : Hid (valL l nm = valL (l.drop (k + 1)) nm) := by
          show _ = _
          rw [hv.out, hst, if_neg he]
        clear hst he hx hcc
        go_wp2_with fail
        go_roundw
        case rel => exact ⟨k + 1, by omega, by go_num, HV, hb.alloc hs _⟩
        case measure => simp [intOf]; omega
    · obtain rfl : k = n := by omega
      have HV : Hid (valL l nm = none) := by
        show _ = _
        rw [hv.out, val_none (by rw [hr.1]; exact Nat.le_refl _)]
      go_wp2_with fail
      go_ret2
      exact ⟨by rw [HV.out]; rfl, hb⟩

theorem matOK_cases (kd : Int) (nm vl : ByteArray) : (knownB kd = false ∧ matOK (kd, nm, vl) = false) ∨ (knownB kd = true ∧ nameB nm = false ∧ matOK (kd, nm, vl) = false) ∨ (knownB kd = true ∧ nameB nm = true ∧ 64 < vl.size ∧ matOK (kd, nm, vl) = false) ∨
    (knownB kd = true ∧ nameB nm = true ∧ vl.size ≤ 64 ∧ kd = 4 ∧ vl.size ≠ 0 ∧ matOK (kd, nm, vl) = false) ∨ (knownB kd = true ∧ nameB nm = true ∧ vl.size ≤ 64 ∧ kd = 4 ∧ vl.size = 0 ∧ matOK (kd, nm, vl) = true) ∨ (knownB kd = true ∧ nameB nm = true ∧ vl.size ≤ 64 ∧ kd ≠ 4 ∧ matOK (kd, nm, vl) = true) := by
  unfold matOK
  cases hk : knownB kd
  · exact .inl ⟨rfl, by simp⟩
  · refine .inr ?_
    cases hn : nameB nm
    · exact .inl ⟨rfl, rfl, by simp⟩
    · refine .inr ?_
      by_cases h64 : 64 < vl.size
      · exact .inl ⟨rfl, rfl, h64, by simp; omega⟩
      · refine .inr ?_
        by_cases h4 : kd = 4
        · by_cases h0 : vl.size = 0
          · exact .inr (.inl ⟨rfl, rfl, by omega, h4, h0, by simp [h0]⟩)
          · exact .inl ⟨rfl, rfl, by omega, h4, h0, by simp [h4, h0]⟩
        · exact .inr (.inr ⟨rfl, rfl, by omega, h4, by simp [h4]; omega⟩)
theorem three_cells (w : World) (x y z : Value) (t : TypeId) : (w.alloc (.cells #[x, y, z] t)).cell? ⟨w.heap.size, 0, none⟩ = some x ∧ (w.alloc (.cells #[x, y, z] t)).cell? ⟨w.heap.size, 1, none⟩ = some y ∧ (w.alloc (.cells #[x, y, z] t)).cell? ⟨w.heap.size, 2, none⟩ = some z :=
  ⟨(Arr.new w t #[x, y, z]).at_ rfl, (Arr.new w t #[x, y, z]).at_ rfl, (Arr.new w t #[x, y, z]).at_ rfl⟩

set_option maxRecDepth 100000 in
set_option maxHeartbeats 2000000 in
theorem check18 (A : Option Addr) (n c B : Nat) (l : List Mat) (w : World) (hr : Mv w B A n l) (hB : B ≤ w.heap.size) :
    Calls Tryd.prog 35 #[.slice A n c] w fun e w' => e = .returned (.int .i64 (chkE l)) ∧ Below w.heap.size w w' := by
  have hl := hr.1
  by_cases h8 : 8 < n
  · have HE := Lib.hid (chk_long (l := l) (by omega))
    have d8 : decide (8 < ((n : Nat) : Int)) = true := decide_eq_true (by omega)
    go_enter Tryd.func35, Tryd.ntmps35
    go_wp2_with fail
    go_ret
    exact ⟨by rw [HE.out]; rfl, Below.refl _ _⟩
  · have d8 : decide (8 < ((n : Nat) : Int)) = false := decide_eq_false (by omega)
    go_enter Tryd.func35, Tryd.ntmps35
    go_wp2_with fail
    go_loopw [10] (fun i wr => ∃ k : Nat, k ≤ n ∧ i = .int .i64 k ∧ Hid (∀ j x, j < k → l[j]? = some x → matOK x = true) ∧ Below w.heap.size w wr) (fun i _ => n - (intOf i).toNat)
    case atStart => exact ⟨0, Nat.zero_le _, rfl, Lib.hid (fun j x h => by omega), Below.refl _ _⟩
    case round =>
      obtain ⟨k, hk, rfl, hv, hb⟩ := hrel
      have hs := hb.size
      by_cases hlt : k < n
      · obtain ⟨x, hx⟩ : ∃ x, l[k]? = some x := ⟨_, List.getElem?_eq_getElem (by rw [hl]; exact hlt)⟩
        obtain ⟨b, off, rfl, hbb, hcc⟩ := (hr.below (hb.mono hB)).at3 hlt
        obtain ⟨p0, p1, p2⟩ := hcc k x hx
        have hbad : matOK x = false → chkE l = 20 := fun h => chk_bad (by omega) hx h
        have hgo : matOK x = true → ∀ j y, j < k + 1 → l[j]? = some y → matOK y = true := fun h j y hj hy => by
          by_cases e : j = k
          · subst e; rw [hx] at hy; injection hy with hy; rw [← hy]; exact h
          · exact hv.out j y (by omega) hy
        obtain ⟨kd, nm, vl⟩ := x
        have HBAD := Lib.hid hbad
        have HGO := Lib.hid hgo
        have hkn := known31 kd (wr.alloc (.cells #[.int .i64 kd, .string nm, .string vl] 64))
        have hnm := name_any nm (wr.alloc (.cells #[.int .i64 kd, .string nm, .string vl] 64))
        obtain ⟨t0, t1, t2⟩ := three_cells wr (.int .i64 kd) (.string nm) (.string vl) 64
        clear hcc hx hbad hgo
        rcases matOK_cases kd nm vl with ⟨a1, hm⟩ | ⟨a1, a2, hm⟩ | ⟨a1, a2, a3, hm⟩ | ⟨a1, a2, a3, a4, a5, hm⟩ | ⟨a1, a2, a3, a4, a5, hm⟩ | ⟨a1, a2, a3, a4, hm⟩
        · rw [a1] at hkn
          have HE := Lib.hid (HBAD.out hm)
          have HKN := Lib.hid hkn
          clear a1 hm hkn hnm
          go_wp2_with fail
          refine HKN.out.mono ?_
          rintro e w2 ⟨rfl, hw2⟩; rw [hw2]; clear hw2 w2
          go_wp2_with fail
          go_ret
          exact ⟨by rw [HE.out]; rfl, hb.alloc hs _⟩
        all_goals
          rw [a1] at hkn
          rw [a2] at hnm
          have HKN := Lib.hid hkn
          have HNM := Lib.hid hnm
          clear a1 a2 hkn hnm
        · have HE := Lib.hid (HBAD.out hm)
          clear hm
          go_wp2_with fail
          refine HKN.out.mono ?_
          rintro e w2 ⟨rfl, hw2⟩; rw [hw2]; clear hw2 w2
          go_wp2_with fail
          refine HNM.out.mono ?_
          rintro e w2 ⟨rfl, hb2⟩
          go_wp2_with fail
          go_ret
          exact ⟨by rw [HE.out]; rfl, (hb.alloc hs _).trans (hb2.mono (by simp; omega))⟩
        · have HE := Lib.hid (HBAD.out hm)
          have d64 : decide (64 < ((vl.size : Nat) : Int)) = true := decide_eq_true (by omega)
          clear hm
          go_wp2_with fail
          refine HKN.out.mono ?_
          rintro e w2 ⟨rfl, hw2⟩; rw [hw2]; clear hw2 w2
          go_wp2_with fail
          refine HNM.out.mono ?_
          rintro e w2 ⟨rfl, hb2⟩
          have y2 := (hb2.cell (p := ⟨wr.heap.size, 2, none⟩) (by simp)).trans t2
          go_wp2_with fail
          go_ret
          exact ⟨by rw [HE.out]; rfl, (hb.alloc hs _).trans (hb2.mono (by simp; omega))⟩
        · have HE := Lib.hid (HBAD.out hm)
          have d64 : decide (64 < ((vl.size : Nat) : Int)) = false := decide_eq_false (by omega)
          have e4 : (kd == 4) = true := by rw [a4]; rfl
          have hne := not_empty a5
          clear hm a4
          go_wp2_with fail
          refine HKN.out.mono ?_
          rintro e w2 ⟨rfl, hw2⟩; rw [hw2]; clear hw2 w2
          go_wp2_with fail
          refine HNM.out.mono ?_
          rintro e w2 ⟨rfl, hb2⟩
          have y0 := (hb2.cell (p := ⟨wr.heap.size, 0, none⟩) (by simp)).trans t0
          have y2 := (hb2.cell (p := ⟨wr.heap.size, 2, none⟩) (by simp)).trans t2
          go_wp2_with fail
          go_ret
          exact ⟨by rw [HE.out]; rfl, (hb.alloc hs _).trans (hb2.mono (by simp; omega))⟩
        · have HG := Lib.hid (HGO.out hm)
          have d64 : decide (64 < ((vl.size : Nat) : Int)) = false := decide_eq_false (by omega)
          have e4 : (kd == 4) = true := by rw [a4]; rfl
          obtain rfl := (empty_iff vl).1 a5
          clear hm a4 a5 a3
          go_wp2_with fail
          refine HKN.out.mono ?_
          rintro e w2 ⟨rfl, hw2⟩; rw [hw2]; clear hw2 w2
          go_wp2_with fail
          refine HNM.out.mono ?_
          rintro e w2 ⟨rfl, hb2⟩
          have y0 := (hb2.cell (p := ⟨wr.heap.size, 0, none⟩) (by simp)).trans t0
          have y2 := (hb2.cell (p := ⟨wr.heap.size, 2, none⟩) (by simp)).trans t2
          go_wp2_with fail
          go_roundw
          case rel => exact ⟨k + 1, by omega, by go_num, HG, (hb.alloc hs _).trans (hb2.mono (by simp; omega))⟩
          case measure => simp [intOf]; omega
        · have HG := Lib.hid (HGO.out hm)
          have d64 : decide (64 < ((vl.size : Nat) : Int)) = false := decide_eq_false (by omega)
          have e4 : (kd == 4) = false := by rw [beq_eq_false_iff_ne]; exact a4
          clear hm a4
          go_wp2_with fail
          refine HKN.out.mono ?_
          rintro e w2 ⟨rfl, hw2⟩; rw [hw2]; clear hw2 w2
          go_wp2_with fail
          refine HNM.out.mono ?_
          rintro e w2 ⟨rfl, hb2⟩
          have y0 := (hb2.cell (p := ⟨wr.heap.size, 0, none⟩) (by simp)).trans t0
          have y2 := (hb2.cell (p := ⟨wr.heap.size, 2, none⟩) (by simp)).trans t2
          go_wp2_with fail
          go_roundw
          case rel => exact ⟨k + 1, by omega, by go_num, HG, (hb.alloc hs _).trans (hb2.mono (by simp; omega))⟩
          case measure => simp [intOf]; omega
      · obtain rfl : k = n := by omega
        have HE := Lib.hid (chk_ok (l := l) (by omega) (by rw [hl]; exact hv.out))
        go_wp2_with fail
        go_ret
        exact ⟨by rw [HE.out]; rfl, hb⟩
end Go.Proofs.YtlicnadbccjbjaaDoor
