/- What the reference's CheckMatch, the law's Big and num, and the four kinds of matchers answer. Conditions: sizes within the form's reach. -/
import Derived.Test.YtlicnadbccjbjaaDoorMchk
import Derived.BigQuiet
namespace Go.Proofs.YtlicnadbccjbjaaDoor
open Go.RowKit LB

theorem num19 (x : Int) (w : World) : Calls Tryd.prog 22 #[.int .i64 x] w fun e w' => e = .returned (.int .i64 x) ∧ w' = w := by
  go_enter Tryd.func22, Tryd.ntmps22
  go_wp2_with fail
  go_ret
  exact ⟨rfl, rfl⟩

theorem known_range (k : Int) : knownB k = true ∧ 1 ≤ k ∧ k ≤ 4 ∨ knownB k = false ∧ k < 1 ∨ knownB k = false ∧ 1 ≤ k ∧ 4 < k := by
  unfold knownB
  by_cases h1 : 1 ≤ k
  · by_cases h2 : k ≤ 4
    · exact .inl ⟨by simp [h1, h2], h1, h2⟩
    · exact .inr (.inr ⟨by simp [h2], h1, by omega⟩)
  · exact .inr (.inl ⟨by simp [h1], by omega⟩)

set_option maxRecDepth 100000 in
set_option maxHeartbeats 4000000 in
theorem rcheck20 (A : Option Addr) (n c B : Nat) (l : List Mat) (w : World) (hr : Mv w B A n l) :
    Calls Tryd.prog 38 #[.slice A n c] w fun e w' => e = .returned (.int .i64 (chkE l)) ∧ w' = w := by
  have hl := hr.1
  by_cases h8 : 8 < n
  · have HE := Lib.hid (chk_long (l := l) (by omega))
    have d8 : decide (8 < ((n : Nat) : Int)) = true := decide_eq_true (by omega)
    go_enter Tryd.func38, Tryd.ntmps38
    go_wp2_with fail
    go_ret
    exact ⟨by rw [HE.out]; rfl, rfl⟩
  · have d8 : decide (8 < ((n : Nat) : Int)) = false := decide_eq_false (by omega)
    go_enter Tryd.func38, Tryd.ntmps38
    go_wp2_with fail
    go_loop [3] (fun i => ∃ k : Nat, k ≤ n ∧ i = .int .i64 k ∧ Hid (∀ j x, j < k → l[j]? = some x → matOK x = true)) (fun i => n - (intOf i).toNat)
    case atStart => exact ⟨0, Nat.zero_le _, rfl, Lib.hid (fun j x h => by omega)⟩
    case round =>
      obtain ⟨k, hk, rfl, hv⟩ := hrel
      by_cases hlt : k < n
      · obtain ⟨x, hx⟩ : ∃ x, l[k]? = some x := ⟨_, List.getElem?_eq_getElem (by rw [hl]; exact hlt)⟩
        obtain ⟨b, off, rfl, hbb, hcc⟩ := hr.at3 hlt
        obtain ⟨p0, p1, p2⟩ := hcc k x hx
        have hbad : matOK x = false → chkE l = 20 := fun h => chk_bad (by omega) hx h
        have hgo : matOK x = true → ∀ j y, j < k + 1 → l[j]? = some y → matOK y = true := fun h j y hj hy => by
          by_cases e : j = k
          · subst e; rw [hx] at hy; injection hy with hy; rw [← hy]; exact h
          · exact hv.out j y (by omega) hy
        obtain ⟨kd, nm, vl⟩ := x
        have HBAD := Lib.hid hbad
        have HGO := Lib.hid hgo
        have HNM := Lib.hid (rname_any nm w)
        have hrange := known_range kd
        clear hcc hx hbad hgo hr
        rcases matOK_cases kd nm vl with ⟨a1, hm⟩ | ⟨a1, a2, hm⟩ | ⟨a1, a2, a3, hm⟩ | ⟨a1, a2, a3, a4, a5, hm⟩ | ⟨a1, a2, a3, a4, a5, hm⟩ | ⟨a1, a2, a3, a4, hm⟩
        · have HE := Lib.hid (HBAD.out hm)
          rw [a1] at hrange
          obtain ⟨N, hN⟩ : ∃ N, N = nameB nm := ⟨_, rfl⟩
          have hnm := HNM.out
          rw [← hN] at hnm
          have HNM2 := Lib.hid hnm
          clear hm hnm hN a1 HNM
          rcases hrange with ⟨h, _⟩ | ⟨_, h1⟩ | ⟨_, h1, h2⟩
          · cases h
          · have d1 : decide (kd < 1) = true := decide_eq_true h1
            go_wp2_with fail
            refine HNM2.out.mono ?_
            rintro e w2 ⟨rfl, hw2⟩; rw [hw2]; clear hw2 w2
            go_wp2_with fail
            go_ret
            exact ⟨by rw [HE.out]; rfl, rfl⟩
          · have d1 : decide (kd < 1) = false := decide_eq_false (by omega)
            have d2 : decide (4 < kd) = true := decide_eq_true h2
            go_wp2_with fail
            refine HNM2.out.mono ?_
            rintro e w2 ⟨rfl, hw2⟩; rw [hw2]; clear hw2 w2
            go_wp2_with fail
            go_ret
            exact ⟨by rw [HE.out]; rfl, rfl⟩
        all_goals
          rw [a1] at hrange
          have hnm := HNM.out
          rw [a2] at hnm
          have HNM2 := Lib.hid hnm
          obtain ⟨r1, r2⟩ : 1 ≤ kd ∧ kd ≤ 4 := by
            rcases hrange with ⟨_, h⟩ | ⟨h, _⟩ | ⟨h, _⟩
            · exact h
            · cases h
            · cases h
          have d1 : decide (kd < 1) = false := decide_eq_false (by omega)
          have d2 : decide (4 < kd) = false := decide_eq_false (by omega)
          clear a1 a2 hnm hrange HNM
        · have HE := Lib.hid (HBAD.out hm)
          clear hm
          go_wp2_with fail
          refine HNM2.out.mono ?_
          rintro e w2 ⟨rfl, hw2⟩; rw [hw2]; clear hw2 w2
          go_wp2_with fail
          go_ret
          exact ⟨by rw [HE.out]; rfl, rfl⟩
        · have HE := Lib.hid (HBAD.out hm)
          have d64 : decide (64 < ((vl.size : Nat) : Int)) = true := decide_eq_true (by omega)
          clear hm
          go_wp2_with fail
          refine HNM2.out.mono ?_
          rintro e w2 ⟨rfl, hw2⟩; rw [hw2]; clear hw2 w2
          go_wp2_with fail
          go_ret
          exact ⟨by rw [HE.out]; rfl, rfl⟩
        · have HE := Lib.hid (HBAD.out hm)
          have d64 : decide (64 < ((vl.size : Nat) : Int)) = false := decide_eq_false (by omega)
          have e4 : (kd == 4) = true := by rw [a4]; rfl
          have hne := not_empty a5
          clear hm a4
          go_wp2_with fail
          refine HNM2.out.mono ?_
          rintro e w2 ⟨rfl, hw2⟩; rw [hw2]; clear hw2 w2
          go_wp2_with fail
          go_ret
          exact ⟨by rw [HE.out]; rfl, rfl⟩
        · have HG := Lib.hid (HGO.out hm)
          have d64 : decide (64 < ((vl.size : Nat) : Int)) = false := decide_eq_false (by omega)
          have e4 : (kd == 4) = true := by rw [a4]; rfl
          obtain rfl := (empty_iff vl).1 a5
          clear hm a4 a5 a3
          go_wp2_with fail
          refine HNM2.out.mono ?_
          rintro e w2 ⟨rfl, hw2⟩; rw [hw2]; clear hw2 w2
          go_wp2_with fail
          go_round
          case rel => exact ⟨k + 1, by omega, by go_num, HG⟩
          case measure => simp [intOf]; omega
        · have HG := Lib.hid (HGO.out hm)
          have d64 : decide (64 < ((vl.size : Nat) : Int)) = false := decide_eq_false (by omega)
          have e4 : (kd == 4) = false := by rw [beq_eq_false_iff_ne]; exact a4
          clear hm a4
          go_wp2_with fail
          refine HNM2.out.mono ?_
          rintro e w2 ⟨rfl, hw2⟩; rw [hw2]; clear hw2 w2
          go_wp2_with fail
          go_round
          case rel => exact ⟨k + 1, by omega, by go_num, HG⟩
          case measure => simp [intOf]; omega
      · obtain rfl : k = n := by omega
        have HE := Lib.hid (chk_ok (l := l) (by omega) (by rw [hl]; exact hv.out))
        go_wp2_with fail
        go_ret
        exact ⟨by rw [HE.out]; rfl, rfl⟩

/-- How much matchers are. -/
def totM (l : List Mat) : Nat := (l.map fun x => 1 + x.2.1.size + x.2.2.size).sum
theorem totM_take {l : List Mat} {k : Nat} {x : Mat} (h : l[k]? = some x) : totM (l.take (k + 1)) = totM (l.take k) + 1 + x.2.1.size + x.2.2.size := by
  obtain ⟨hk, he⟩ := List.getElem?_eq_some_iff.1 h
  unfold totM
  rw [List.take_succ_eq_append_getElem hk, he, List.map_append, List.sum_append]
  simp; omega
theorem totM_le (l : List Mat) (k : Nat) : totM (l.take k) ≤ totM l := by
  have h : totM l = totM (l.take k) + totM (l.drop k) := by
    unfold totM
    rw [← List.sum_append, ← List.map_append, List.take_append_drop]
  omega
theorem totM_len (l : List Mat) : l.length ≤ totM l := by
  induction l with
  | nil => exact Nat.zero_le _
  | cons a l ih => unfold totM at ih ⊢; simp only [List.map_cons, List.sum_cons, List.length_cons]; omega

set_option maxRecDepth 100000 in
set_option maxHeartbeats 1000000 in
theorem big17 (A : Option Addr) (n c B : Nat) (l : List Mat) (w : World) (hr : Mv w B A n l) (hz : ∀ x ∈ l, x.2.1.size ≤ 1000000000000000 ∧ x.2.2.size ≤ 1000000000000000) (hn : n ≤ 1000000000000000) :
    Calls Tryd.prog 18 #[.slice A n c] w fun e w' => e = .returned (.bool (decide (4000 < totM l))) ∧ ∃ k, w' = w.drewN k := by
  go_enter Tryd.func18, Tryd.ntmps18
  go_wp2_with fail
  go_loopw [3, 4] (fun a i wr => ∃ k : Nat, k ≤ n ∧ a = .int .i64 (totM (l.take k) : Nat) ∧ i = .int .i64 k ∧ ∃ j, wr = w.drewN j) (fun _ i _ => n - (intOf i).toNat)
  case atStart => exact ⟨0, Nat.zero_le _, rfl, rfl, 0, rfl⟩
  case round =>
    obtain ⟨k, hk, rfl, rfl, j, rfl⟩ := hrel
    obtain ⟨T, hT⟩ : ∃ T, T = totM (l.take k) := ⟨_, rfl⟩
    have HT := Lib.hid hT
    rw [← hT]
    by_cases hlt : k < n
    · obtain ⟨x, hx⟩ : ∃ x, l[k]? = some x := ⟨_, List.getElem?_eq_getElem (by rw [hr.1]; exact hlt)⟩
      have htk := totM_take hx
      rw [← hT] at htk
      obtain ⟨z1, z2⟩ := hz x (List.mem_of_getElem? hx)
      by_cases hbig : T ≤ 4000
      · have d4 : decide (((T : Nat) : Int) ≤ 4000) = true := decide_eq_true (by omega)
        obtain ⟨b, off, rfl, _, hc⟩ := (hr.drewN j).at3 hlt
        obtain ⟨c0, c1, c2⟩ := hc k x hx
        obtain ⟨kd, xn, xv⟩ := x
        have HTK := Lib.hid htk
        obtain ⟨w2, hw2⟩ : ∃ w2, w2 = w.drewN j := ⟨_, rfl⟩
        have HW := Lib.hid hw2
        rw [← hw2] at c0 c1 c2 ⊢
        clear hx hc hw2 htk hT
        go_wp2_with fail
        go_quiet (fail)
        go_wp2_with fail
        go_roundw
        case rel => exact ⟨k + 1, by omega, by rw [HTK.out]; go_num, by go_num, _, by rw [HW.out]; exact World.drewN_drewN _ _ _⟩
        case measure => simp [intOf]; omega
      · have d4 : decide (((T : Nat) : Int) ≤ 4000) = false := decide_eq_false (by omega)
        have hfin : decide (4000 < totM l) = true := decide_eq_true (by have := totM_le l k; omega)
        have d5 : decide (4000 < ((T : Nat) : Int)) = true := decide_eq_true (by omega)
        have HFI := Lib.hid hfin
        clear hfin
        clear htk hT hx
        go_wp2_with fail
        go_ret
        exact ⟨by rw [HFI.out]; rfl, j, rfl⟩
    · obtain rfl : k = n := by omega
      have hall : l.take k = l := by rw [← hr.1]; exact List.take_length
      rw [hall] at hT
      by_cases hbig : T ≤ 4000
      · have hfin : decide (4000 < totM l) = false := decide_eq_false (by omega)
        have d5 : decide (4000 < ((T : Nat) : Int)) = false := decide_eq_false (by omega)
        have HFI := Lib.hid hfin
        clear hfin
        clear hT
        go_wp2_with fail
        go_ret
        exact ⟨by rw [HFI.out]; rfl, j, rfl⟩
      · have hfin : decide (4000 < totM l) = true := decide_eq_true (by omega)
        have d5 : decide (4000 < ((T : Nat) : Int)) = true := decide_eq_true (by omega)
        have HFI := Lib.hid hfin
        clear hfin
        clear hT
        go_wp2_with fail
        go_ret
        exact ⟨by rw [HFI.out]; rfl, j, rfl⟩

/-- The value that a name has, or the empty one. -/
def vOf (l : List Lab) (nm : ByteArray) : ByteArray := (valL l nm).getD ⟨#[]⟩
theorem eq_bool (a b : ByteArray) : (a.toList == b.toList) = decide (a = b) := eq_beq a b

set_option maxRecDepth 100000 in
set_option maxHeartbeats 1000000 in
theorem equal32 (A : Option Addr) (n c B : Nat) (l : List Lab) (kd : Int) (nm vl : ByteArray) (w : World) (hr : Lv w B A n l) (hB : B ≤ w.heap.size) (hn : n ≤ 1000000) :
    Calls Tryd.prog 47 #[.agg #[.int .i64 kd, .string nm, .string vl], .slice A n c] w fun e w' => e = .returned (.bool (decide (vOf l nm = vl))) ∧ Below w.heap.size w w' := by
  obtain ⟨t0, t1, t2⟩ := three_cells w (.int .i64 kd) (.string nm) (.string vl) 83
  have hq := value44 A n c B l nm (w.alloc (.cells #[.int .i64 kd, .string nm, .string vl] 83)) (hr.below ((Below.refl _ w).alloc hB _)) (by simp; omega) hn
  obtain ⟨V, hV⟩ : ∃ V, V = vOf l nm := ⟨_, rfl⟩
  obtain ⟨S, hS⟩ : ∃ S, S = (valL l nm).isSome := ⟨_, rfl⟩
  have hV2 : (valL l nm).getD ⟨#[]⟩ = V := hV.symm
  rw [hV2, ← hS] at hq
  rw [← hV]
  have HQ := Lib.hid hq
  have he := eq_bool V vl
  clear hq hV hS hV2
  cases hd : decide (V = vl)
  all_goals
    rw [hd] at he
    clear hd
    go_enter Tryd.func47, Tryd.ntmps47
    go_wp2_with fail
    refine HQ.out.mono ?_
    rintro e w2 ⟨rfl, hb2⟩
    have y2 := (hb2.cell (p := ⟨w.heap.size, 2, none⟩) (by simp)).trans t2
    go_wp2_with fail
    go_ret
    exact ⟨rfl, ((Below.refl _ w).alloc (Nat.le_refl _) _).trans (hb2.mono (by simp))⟩

set_option maxRecDepth 100000 in
set_option maxHeartbeats 1000000 in
theorem not33 (A : Option Addr) (n c B : Nat) (l : List Lab) (kd : Int) (nm vl : ByteArray) (w : World) (hr : Lv w B A n l) (hB : B ≤ w.heap.size) (hn : n ≤ 1000000) :
    Calls Tryd.prog 48 #[.agg #[.int .i64 kd, .string nm, .string vl], .slice A n c] w fun e w' => e = .returned (.bool (!decide (vOf l nm = vl))) ∧ Below w.heap.size w w' := by
  obtain ⟨t0, t1, t2⟩ := three_cells w (.int .i64 kd) (.string nm) (.string vl) 83
  have hq := equal32 A n c B l kd nm vl (w.alloc (.cells #[.int .i64 kd, .string nm, .string vl] 83)) (hr.below ((Below.refl _ w).alloc hB _)) (by simp; omega) hn
  obtain ⟨V, hV⟩ : ∃ V, V = decide (vOf l nm = vl) := ⟨_, rfl⟩
  rw [← hV] at hq ⊢
  have HQ := Lib.hid hq
  clear hq hV
  go_enter Tryd.func48, Tryd.ntmps48
  go_wp2_with fail
  refine HQ.out.mono ?_
  rintro e w2 ⟨rfl, hb2⟩
  go_wp2_with fail
  go_ret
  exact ⟨rfl, ((Below.refl _ w).alloc (Nat.le_refl _) _).trans (hb2.mono (by simp))⟩

set_option maxRecDepth 100000 in
set_option maxHeartbeats 1000000 in
theorem prefix34 (A : Option Addr) (n c B : Nat) (l : List Lab) (kd : Int) (nm vl : ByteArray) (w : World) (hr : Lv w B A n l) (hB : B ≤ w.heap.size) (hn : n ≤ 1000000) :
    Calls Tryd.prog 49 #[.agg #[.int .i64 kd, .string nm, .string vl], .slice A n c] w fun e w' => e = .returned (.bool (Lib.hasPrefix (vOf l nm).data.toList vl.data.toList)) ∧ Below w.heap.size w w' := by
  obtain ⟨t0, t1, t2⟩ := three_cells w (.int .i64 kd) (.string nm) (.string vl) 83
  have hq := value44 A n c B l nm (w.alloc (.cells #[.int .i64 kd, .string nm, .string vl] 83)) (hr.below ((Below.refl _ w).alloc hB _)) (by simp; omega) hn
  obtain ⟨V, hV⟩ : ∃ V, V = vOf l nm := ⟨_, rfl⟩
  obtain ⟨S, hS⟩ : ∃ S, S = (valL l nm).isSome := ⟨_, rfl⟩
  have hV2 : (valL l nm).getD ⟨#[]⟩ = V := hV.symm
  rw [hV2, ← hS] at hq
  rw [← hV]
  have HQ := Lib.hid hq
  have hp := fun W => Tryd.strings_HasPrefix V vl W
  obtain ⟨R, hR⟩ : ∃ R, R = Lib.hasPrefix V.data.toList vl.data.toList := ⟨_, rfl⟩
  rw [← hR] at hp ⊢
  have HP := Lib.hid hp
  clear hq hV hS hV2 hp hR
  go_enter Tryd.func49, Tryd.ntmps49
  go_wp2_with fail
  refine HQ.out.mono ?_
  rintro e w2 ⟨rfl, hb2⟩
  have y2 := (hb2.cell (p := ⟨w.heap.size, 2, none⟩) (by simp)).trans t2
  go_wp2_with fail
  refine (HP.out _).mono ?_
  rintro e w3 ⟨rfl, hw3⟩; rw [hw3]; clear hw3 w3
  go_wp2_with fail
  go_ret
  exact ⟨rfl, ((Below.refl _ w).alloc (Nat.le_refl _) _).trans (hb2.mono (by simp))⟩

set_option maxRecDepth 100000 in
set_option maxHeartbeats 1000000 in
theorem has35 (A : Option Addr) (n c B : Nat) (l : List Lab) (kd : Int) (nm vl : ByteArray) (w : World) (hr : Lv w B A n l) (hB : B ≤ w.heap.size) (hn : n ≤ 1000000) :
    Calls Tryd.prog 50 #[.agg #[.int .i64 kd, .string nm, .string vl], .slice A n c] w fun e w' => e = .returned (.bool (valL l nm).isSome) ∧ Below w.heap.size w w' := by
  obtain ⟨t0, t1, t2⟩ := three_cells w (.int .i64 kd) (.string nm) (.string vl) 83
  have hq := value44 A n c B l nm (w.alloc (.cells #[.int .i64 kd, .string nm, .string vl] 83)) (hr.below ((Below.refl _ w).alloc hB _)) (by simp; omega) hn
  obtain ⟨V, hV⟩ : ∃ V, V = (valL l nm).getD ⟨#[]⟩ := ⟨_, rfl⟩
  obtain ⟨S, hS⟩ : ∃ S, S = (valL l nm).isSome := ⟨_, rfl⟩
  rw [← hV, ← hS] at hq
  rw [← hS]
  have HQ := Lib.hid hq
  clear hq hV hS
  go_enter Tryd.func50, Tryd.ntmps50
  go_wp2_with fail
  refine HQ.out.mono ?_
  rintro e w2 ⟨rfl, hb2⟩
  go_wp2_with fail
  go_ret
  exact ⟨rfl, ((Below.refl _ w).alloc (Nat.le_refl _) _).trans (hb2.mono (by simp))⟩
end Go.Proofs.YtlicnadbccjbjaaDoor
