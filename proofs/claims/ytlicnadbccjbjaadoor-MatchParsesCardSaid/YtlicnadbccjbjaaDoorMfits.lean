/- What match.Fits and the reference's Fits answer. Conditions: at most 10^6 labels. -/
import Derived.Test.YtlicnadbccjbjaaDoorMref
import Derived.Deep.RegionHeld3
import Derived.Laws.EntriesVeiled
namespace Go.Proofs.YtlicnadbccjbjaaDoor
open Go.RowKit LB

theorem fits_no {l : List Mat} {of : List Lab} (h : chkE l ≠ 0) : fitsB l of = false := by simp [fitsB, h]
theorem fits_bad {l : List Mat} {of : List Lab} {k : Nat} {x : Mat} (hx : l[k]? = some x) (h : fit1 of x = false) : fitsB l of = false := by
  cases hf : fitsB l of with
  | false => rfl
  | true =>
    unfold fitsB at hf
    rw [Bool.and_eq_true] at hf
    have := List.all_eq_true.1 hf.2 x (List.mem_of_getElem? hx)
    rw [h] at this; cases this
theorem fits_ok {l : List Mat} {of : List Lab} (h0 : chkE l = 0) (ha : ∀ j x, j < l.length → l[j]? = some x → fit1 of x = true) : fitsB l of = true := by
  unfold fitsB
  rw [h0, Bool.and_eq_true]
  refine ⟨by simp, List.all_eq_true.2 fun x hx => ?_⟩
  obtain ⟨j, hj⟩ := List.getElem?_of_mem hx
  exact ha j x (List.getElem?_eq_some_iff.1 hj).1 hj
theorem ok_kind {x : Mat} (h : matOK x = true) : x.1 = 1 ∨ x.1 = 2 ∨ x.1 = 3 ∨ x.1 = 4 := by
  unfold matOK knownB at h
  simp only [Bool.and_eq_true, decide_eq_true_eq] at h
  omega

set_option maxRecDepth 100000 in
set_option maxHeartbeats 4000000 in
theorem fits21 (A : Option Addr) (n c B : Nat) (l : List Mat) (A' : Option Addr) (n' c' B' : Nat) (of : List Lab) (w : World) (hr : Mv w B A n l) (hB : B ≤ w.heap.size) (hr' : Lv w B' A' n' of) (hB' : B' ≤ w.heap.size) (hn' : n' ≤ 1000000) :
    Calls Tryd.prog 34 #[.slice A n c, .slice A' n' c'] w fun e w' => e = .returned (.bool (fitsB l of)) ∧ Below w.heap.size w w' := by
  have hck := check18 A n c B l w hr hB
  by_cases h0 : chkE l = 0
  · rw [h0] at hck
    have hok := (chk_mem h0).2
    have hn8 : n ≤ 8 := by have h1 := (chk_mem h0).1; have h2 := hr.1; omega
    have HOK := Lib.hid (And.intro h0 hok)
    have HCK := Lib.hid hck
    clear hck hok h0
    go_enter Tryd.func34, Tryd.ntmps34
    go_wp2_with fail
    refine HCK.out.mono ?_
    rintro e w1 ⟨rfl, hb1⟩
    go_wp2_with fail
    obtain ⟨w2, hw2⟩ : ∃ w2, w2 = w1.alloc (.cells #[.nilFunc, .func (.func 47) #[] #[], .func (.func 48) #[] #[], .func (.func 49) #[] #[], .func (.func 50) #[] #[]] 84) := ⟨_, rfl⟩
    have hta : Arr w2 w1.heap.size 84 #[.nilFunc, .func (.func 47) #[] #[], .func (.func 48) #[] #[], .func (.func 49) #[] #[], .func (.func 50) #[] #[]] := by rw [hw2]; exact Arr.new _ _ _
    have hb2 : Below w.heap.size w w2 := by rw [hw2]; exact hb1.alloc hb1.size _
    have hs2 : w2.heap.size = w1.heap.size + 1 := by rw [hw2]; simp
    rw [← hw2]
    have hs1 := hb1.size
    have HS2 := Lib.hid hs2
    have hTlt : w1.heap.size < w2.heap.size := by omega
    obtain ⟨T, hT⟩ : ∃ T, T = w1.heap.size := ⟨_, rfl⟩
    rw [← hT] at hta hTlt hs1 ⊢
    have HTA := Lib.hid hta
    clear hw2 hb1 hs2 hT hta
    go_loopw [14] (fun i wr => ∃ k : Nat, k ≤ n ∧ i = .int .i64 k ∧ Hid (∀ j x, j < k → l[j]? = some x → fit1 of x = true) ∧ Below w2.heap.size w2 wr) (fun i _ => n - (intOf i).toNat)
    case atStart => exact ⟨0, Nat.zero_le _, rfl, Lib.hid (fun j x h => by omega), Below.refl _ _⟩
    case round =>
      obtain ⟨k, hk, rfl, hv, hb⟩ := hrel
      have hs := hb.size
      have hbw := hb2.trans (hb.mono hb2.size)
      have hsw := hbw.size
      by_cases hlt : k < n
      · obtain ⟨x, hx⟩ : ∃ x, l[k]? = some x := ⟨_, List.getElem?_eq_getElem (by rw [hr.1]; exact hlt)⟩
        obtain ⟨b, off, rfl, hbb, hcc⟩ := (hr.below (hbw.mono hB)).at3 hlt
        obtain ⟨p0, p1, p2⟩ := hcc k x hx
        have hkind := ok_kind (HOK.out.2 x (List.mem_of_getElem? hx))
        have hbad : fit1 of x = false → fitsB l of = false := fun h => fits_bad hx h
        have hgo : fit1 of x = true → ∀ j y, j < k + 1 → l[j]? = some y → fit1 of y = true := fun h j y hj hy => by
          by_cases e : j = k
          · subst e; rw [hx] at hy; injection hy with hy; rw [← hy]; exact h
          · exact hv.out j y (by omega) hy
        obtain ⟨kd, nm, vl⟩ := x
        have HBAD := Lib.hid hbad
        have HGO := Lib.hid hgo
        have hlo := (hr'.below (hbw.mono hB')).below ((Below.refl _ wr).alloc (by omega) (.cells #[.int .i64 kd, .string nm, .string vl] 64))
        have hta := (HTA.out.below hb hTlt)
        have hne : ∀ X : Obj, Arr (wr.alloc X) T 84 #[.nilFunc, .func (.func 47) #[] #[], .func (.func 48) #[] #[], .func (.func 49) #[] #[], .func (.func 50) #[] #[]] := fun X => hta.alloc X
        have HNE := Lib.hid hne
        have HB := Lib.hid (And.intro hb hbw)
        clear hcc hx hbad hgo hb hbw hta hne
        dsimp only at hkind
        rcases hkind with rfl | rfl | rfl | rfl
        · have hf1 : fit1 of (1, nm, vl) = (decide (vOf of nm = vl)) := by rfl
          have hq := equal32 A' n' c' w.heap.size of 1 nm vl ((wr.alloc (.cells #[.int .i64 1, .string nm, .string vl] 64)).drew) (hlo.more hB') (by simp; omega) hn'
          obtain ⟨R, hR⟩ : ∃ R : Bool, R = (decide (vOf of nm = vl)) := ⟨_, rfl⟩
          rw [← hR] at hf1 hq
          have HF1 := Lib.hid hf1
          have HQ := Lib.hid hq
          have g0 := (HNE.out (.cells #[.int .i64 1, .string nm, .string vl] 64)).at_ (i := 1) (v := .func (.func 47) #[] #[]) rfl
          obtain ⟨t0, t1, t2⟩ := three_cells wr (.int .i64 1) (.string nm) (.string vl) 64
          clear hf1 hq hR hlo
          go_wp2_with fail
          go_region_held3 (fun w' => w'.cell? ⟨wr.heap.size, 0, none⟩ = some (.int .i64 1) ∧ w'.cell? ⟨wr.heap.size, 1, none⟩ = some (.string nm) ∧ w'.cell? ⟨wr.heap.size, 2, none⟩ = some (.string vl) ∧ w'.cell? ⟨T, 1, none⟩ = some (.func (.func 47) #[] #[])) (first | go_keep | exact ⟨s0, s1, s2, s3⟩) ((go_at_call 47; refine HQ.out.mono ?_; rintro e w3 ⟨rfl, hb3⟩; have s0 := (hb3.cell (p := ⟨wr.heap.size, 0, none⟩) (by simp)).trans t0; have s1 := (hb3.cell (p := ⟨wr.heap.size, 1, none⟩) (by simp)).trans t1; have s2 := (hb3.cell (p := ⟨wr.heap.size, 2, none⟩) (by simp)).trans t2; have s3 := (hb3.cell (p := ⟨T, 1, none⟩) (by simp; omega)).trans g0))
          have HB3 := Lib.hid (((HB.out.1.alloc hs (.cells #[.int .i64 1, .string nm, .string vl] 64)).drew).trans (hb3.mono (by simp; omega)))
          clear hb3 s0 s1 s2 s3 t0 t1 t2 g0
          cases R
          · have HFB := Lib.hid (HBAD.out HF1.out)
            go_wp2_with fail
            go_ret
            exact ⟨by rw [HFB.out]; rfl, hb2.trans (HB3.out.mono hb2.size)⟩
          · have HG := Lib.hid (HGO.out HF1.out)
            go_wp2_with fail
            go_roundw
            case rel => exact ⟨k + 1, by omega, by go_num, HG, HB3.out⟩
            case measure => simp [intOf]; omega
        · have hf1 : fit1 of (2, nm, vl) = (!decide (vOf of nm = vl)) := by rfl
          have hq := not33 A' n' c' w.heap.size of 2 nm vl ((wr.alloc (.cells #[.int .i64 2, .string nm, .string vl] 64)).drew) (hlo.more hB') (by simp; omega) hn'
          obtain ⟨R, hR⟩ : ∃ R : Bool, R = (!decide (vOf of nm = vl)) := ⟨_, rfl⟩
          rw [← hR] at hf1 hq
          have HF1 := Lib.hid hf1
          have HQ := Lib.hid hq
          have g0 := (HNE.out (.cells #[.int .i64 2, .string nm, .string vl] 64)).at_ (i := 2) (v := .func (.func 48) #[] #[]) rfl
          obtain ⟨t0, t1, t2⟩ := three_cells wr (.int .i64 2) (.string nm) (.string vl) 64
          clear hf1 hq hR hlo
          go_wp2_with fail
          go_region_held3 (fun w' => w'.cell? ⟨wr.heap.size, 0, none⟩ = some (.int .i64 2) ∧ w'.cell? ⟨wr.heap.size, 1, none⟩ = some (.string nm) ∧ w'.cell? ⟨wr.heap.size, 2, none⟩ = some (.string vl) ∧ w'.cell? ⟨T, 2, none⟩ = some (.func (.func 48) #[] #[])) (first | go_keep | exact ⟨s0, s1, s2, s3⟩) ((go_at_call 48; refine HQ.out.mono ?_; rintro e w3 ⟨rfl, hb3⟩; have s0 := (hb3.cell (p := ⟨wr.heap.size, 0, none⟩) (by simp)).trans t0; have s1 := (hb3.cell (p := ⟨wr.heap.size, 1, none⟩) (by simp)).trans t1; have s2 := (hb3.cell (p := ⟨wr.heap.size, 2, none⟩) (by simp)).trans t2; have s3 := (hb3.cell (p := ⟨T, 2, none⟩) (by simp; omega)).trans g0))
          have HB3 := Lib.hid (((HB.out.1.alloc hs (.cells #[.int .i64 2, .string nm, .string vl] 64)).drew).trans (hb3.mono (by simp; omega)))
          clear hb3 s0 s1 s2 s3 t0 t1 t2 g0
          cases R
          · have HFB := Lib.hid (HBAD.out HF1.out)
            go_wp2_with fail
            go_ret
            exact ⟨by rw [HFB.out]; rfl, hb2.trans (HB3.out.mono hb2.size)⟩
          · have HG := Lib.hid (HGO.out HF1.out)
            go_wp2_with fail
            go_roundw
            case rel => exact ⟨k + 1, by omega, by go_num, HG, HB3.out⟩
            case measure => simp [intOf]; omega
        · have hf1 : fit1 of (3, nm, vl) = (Lib.hasPrefix (vOf of nm).data.toList vl.data.toList) := by rfl
          have hq := prefix34 A' n' c' w.heap.size of 3 nm vl ((wr.alloc (.cells #[.int .i64 3, .string nm, .string vl] 64)).drew) (hlo.more hB') (by simp; omega) hn'
          obtain ⟨R, hR⟩ : ∃ R : Bool, R = (Lib.hasPrefix (vOf of nm).data.toList vl.data.toList) := ⟨_, rfl⟩
          rw [← hR] at hf1 hq
          have HF1 := Lib.hid hf1
          have HQ := Lib.hid hq
          have g0 := (HNE.out (.cells #[.int .i64 3, .string nm, .string vl] 64)).at_ (i := 3) (v := .func (.func 49) #[] #[]) rfl
          obtain ⟨t0, t1, t2⟩ := three_cells wr (.int .i64 3) (.string nm) (.string vl) 64
          clear hf1 hq hR hlo
          go_wp2_with fail
          go_region_held3 (fun w' => w'.cell? ⟨wr.heap.size, 0, none⟩ = some (.int .i64 3) ∧ w'.cell? ⟨wr.heap.size, 1, none⟩ = some (.string nm) ∧ w'.cell? ⟨wr.heap.size, 2, none⟩ = some (.string vl) ∧ w'.cell? ⟨T, 3, none⟩ = some (.func (.func 49) #[] #[])) (first | go_keep | exact ⟨s0, s1, s2, s3⟩) ((go_at_call 49; refine HQ.out.mono ?_; rintro e w3 ⟨rfl, hb3⟩; have s0 := (hb3.cell (p := ⟨wr.heap.size, 0, none⟩) (by simp)).trans t0; have s1 := (hb3.cell (p := ⟨wr.heap.size, 1, none⟩) (by simp)).trans t1; have s2 := (hb3.cell (p := ⟨wr.heap.size, 2, none⟩) (by simp)).trans t2; have s3 := (hb3.cell (p := ⟨T, 3, none⟩) (by simp; omega)).trans g0))
          have HB3 := Lib.hid (((HB.out.1.alloc hs (.cells #[.int .i64 3, .string nm, .string vl] 64)).drew).trans (hb3.mono (by simp; omega)))
          clear hb3 s0 s1 s2 s3 t0 t1 t2 g0
          cases R
          · have HFB := Lib.hid (HBAD.out HF1.out)
            go_wp2_with fail
            go_ret
            exact ⟨by rw [HFB.out]; rfl, hb2.trans (HB3.out.mono hb2.size)⟩
          · have HG := Lib.hid (HGO.out HF1.out)
            go_wp2_with fail
            go_roundw
            case rel => exact ⟨k + 1, by omega, by go_num, HG, HB3.out⟩
            case measure => simp [intOf]; omega
        · have hf1 : fit1 of (4, nm, vl) = ((valL of nm).isSome) := by rfl
          have hq := has35 A' n' c' w.heap.size of 4 nm vl ((wr.alloc (.cells #[.int .i64 4, .string nm, .string vl] 64)).drew) (hlo.more hB') (by simp; omega) hn'
          obtain ⟨R, hR⟩ : ∃ R : Bool, R = ((valL of nm).isSome) := ⟨_, rfl⟩
          rw [← hR] at hf1 hq
          have HF1 := Lib.hid hf1
          have HQ := Lib.hid hq
          have g0 := (HNE.out (.cells #[.int .i64 4, .string nm, .string vl] 64)).at_ (i := 4) (v := .func (.func 50) #[] #[]) rfl
          obtain ⟨t0, t1, t2⟩ := three_cells wr (.int .i64 4) (.string nm) (.string vl) 64
          clear hf1 hq hR hlo
          go_wp2_with fail
          go_region_held3 (fun w' => w'.cell? ⟨wr.heap.size, 0, none⟩ = some (.int .i64 4) ∧ w'.cell? ⟨wr.heap.size, 1, none⟩ = some (.string nm) ∧ w'.cell? ⟨wr.heap.size, 2, none⟩ = some (.string vl) ∧ w'.cell? ⟨T, 4, none⟩ = some (.func (.func 50) #[] #[])) (first | go_keep | exact ⟨s0, s1, s2, s3⟩) ((go_at_call 50; refine HQ.out.mono ?_; rintro e w3 ⟨rfl, hb3⟩; have s0 := (hb3.cell (p := ⟨wr.heap.size, 0, none⟩) (by simp)).trans t0; have s1 := (hb3.cell (p := ⟨wr.heap.size, 1, none⟩) (by simp)).trans t1; have s2 := (hb3.cell (p := ⟨wr.heap.size, 2, none⟩) (by simp)).trans t2; have s3 := (hb3.cell (p := ⟨T, 4, none⟩) (by simp; omega)).trans g0))
          have HB3 := Lib.hid (((HB.out.1.alloc hs (.cells #[.int .i64 4, .string nm, .string vl] 64)).drew).trans (hb3.mono (by simp; omega)))
          clear hb3 s0 s1 s2 s3 t0 t1 t2 g0
          cases R
          · have HFB := Lib.hid (HBAD.out HF1.out)
            go_wp2_with fail
            go_ret
            exact ⟨by rw [HFB.out]; rfl, hb2.trans (HB3.out.mono hb2.size)⟩
          · have HG := Lib.hid (HGO.out HF1.out)
            go_wp2_with fail
            go_roundw
            case rel => exact ⟨k + 1, by omega, by go_num, HG, HB3.out⟩
            case measure => simp [intOf]; omega
      · obtain rfl : k = n := by omega
        have HE := Lib.hid (fits_ok (l := l) (of := of) HOK.out.1 (by rw [hr.1]; exact hv.out))
        go_wp2_with fail
        go_ret
        exact ⟨by rw [HE.out]; rfl, hbw⟩
  · have hf := fits_no (of := of) h0
    obtain ⟨E, hE⟩ : ∃ E, E = chkE l := ⟨_, rfl⟩
    rw [← hE] at hck h0
    have e1 : (E != 0) = true := by simpa using h0
    have HF := Lib.hid hf
    have HCK := Lib.hid hck
    clear hf hck hE h0
    go_enter Tryd.func34, Tryd.ntmps34
    go_wp2_with fail
    refine HCK.out.mono ?_
    rintro e w1 ⟨rfl, hb1⟩
    go_wp2_with fail
    go_ret
    exact ⟨by rw [HF.out]; rfl, hb1⟩
end Go.Proofs.YtlicnadbccjbjaaDoor
