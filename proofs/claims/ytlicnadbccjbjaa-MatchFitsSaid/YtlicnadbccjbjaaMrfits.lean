/- What the reference's Fits answers. Conditions: at most 10^6 labels, values of at most 10^15 bytes. -/
import Derived.Test.YtlicnadbccjbjaaMfits
import Derived.WalkSpells
namespace Go.Proofs.Ytlicnadbccjbjaa
open Go.RowKit LB

theorem val_take {l : List Lab} {k : Nat} {x : Lab} {n : ByteArray} (hx : l[k]? = some x) : valL (l.take (k + 1)) n = (match valL (l.take k) n with | some u => some u | none => if x.1 = n then some x.2 else none) := by
  obtain ⟨hk, he⟩ := List.getElem?_eq_some_iff.1 hx
  rw [List.take_succ_eq_append_getElem hk, he]
  generalize l.take k = p
  induction p with
  | nil => rfl
  | cons a r ih =>
    rw [List.cons_append, valL, valL]
    split
    · rfl
    · exact ih
/-- What two slots hold of what has been found. -/
def VH (o : Option ByteArray) (v h : Value) : Prop := match o with | none => v = .string ⟨#[]⟩ ∧ h = .bool false | some u => v = .string u ∧ h = .bool true
theorem prefix_long {v p : ByteArray} (h : ¬ p.size ≤ v.size) : Lib.hasPrefix v.data.toList p.data.toList = false := by
  unfold Lib.hasPrefix
  cases hp : (p.data.toList.isPrefixOf v.data.toList) with
  | false => rfl
  | true =>
    have := (List.isPrefixOf_iff_prefix.1 hp).length_le
    simp at this; omega
theorem prefix_cut {v p : ByteArray} (h : p.size ≤ v.size) : ((v.extract 0 p.size).toList == p.toList) = Lib.hasPrefix v.data.toList p.data.toList := by
  have e : (v.extract 0 p.size).toList = v.data.toList.take p.data.toList.length := by
    rw [ByteArray.toList_eq]
    simp
  rw [e, ByteArray.toList_eq]
  unfold Lib.hasPrefix
  rw [Bool.eq_iff_iff, beq_iff_eq, List.isPrefixOf_iff_prefix, List.prefix_iff_eq_take]
  exact eq_comm
set_option maxRecDepth 100000 in
set_option maxHeartbeats 4000000 in
theorem rfits22 (A : Option Addr) (n c B : Nat) (l : List Mat) (A' : Option Addr) (n' c' B' : Nat) (of : List Lab) (w : World) (hr : Mv w B A n l) (hr' : Lv w B' A' n' of) (hn' : n' ≤ 1000000) (hsz : ∀ x ∈ of, x.2.size ≤ 1000000000000000) :
    Calls Try.prog 22 #[.slice A n c, .slice A' n' c'] w fun e w' => e = .returned (.bool (fitsB l of)) ∧ ∃ q, w' = w.drewN q := by
  have hck := rcheck20 A n c B l w hr
  by_cases h0 : chkE l = 0
  · rw [h0] at hck
    have hok := (chk_mem h0).2
    have hn8 : n ≤ 8 := by have h1 := (chk_mem h0).1; have h2 := hr.1; omega
    have HOK := Lib.hid (And.intro h0 hok)
    have HCK := Lib.hid hck
    have HSZ := Lib.hid hsz
    clear hck hok h0 hsz
    go_enter Try.func22, Try.ntmps22
    go_wp2_with fail
    refine HCK.out.mono ?_
    rintro e w1 ⟨rfl, hw1⟩; rw [hw1]; clear hw1 w1
    go_wp2_with fail
    go_loopw [5] (fun i wr => ∃ k : Nat, k ≤ n ∧ i = .int .i64 k ∧ Hid (∀ j x, j < k → l[j]? = some x → fit1 of x = true) ∧ ∃ q, wr = w.drewN q) (fun i _ => n - (intOf i).toNat)
    case atStart => exact ⟨0, Nat.zero_le _, rfl, Lib.hid (fun j x h => by omega), 0, rfl⟩
    case round =>
      obtain ⟨k, hk, rfl, hv, q, rfl⟩ := hrel
      obtain ⟨w2, hw2⟩ : ∃ w2, w2 = w.drewN q := ⟨_, rfl⟩
      have HW2 := Lib.hid hw2
      by_cases hlt : k < n
      · obtain ⟨x, hx⟩ : ∃ x, l[k]? = some x := ⟨_, List.getElem?_eq_getElem (by rw [hr.1]; exact hlt)⟩
        have hr2 : Lv w2 B' A' n' of := by rw [hw2]; exact hr'.drewN q
        obtain ⟨b, off, rfl, hbb, hcc⟩ := (hr.drewN q).at3 hlt
        obtain ⟨p0, p1, p2⟩ := hcc k x hx
        have hkind := ok_kind (HOK.out.2 x (List.mem_of_getElem? hx))
        have hbad : fit1 of x = false → fitsB l of = false := fun h => fits_bad hx h
        have hgo : fit1 of x = true → ∀ j y, j < k + 1 → l[j]? = some y → fit1 of y = true := fun h j y hj hy => by
          by_cases e : j = k
          · subst e; rw [hx] at hy; injection hy with hy; rw [← hy]; exact h
          · exact hv.out j y (by omega) hy
        obtain ⟨kd, nm, vl⟩ := x
        have HBAD := Lib.hid hbad
        have HGO := Lib.hid hgo
        rw [← hw2] at p0 p1 p2 ⊢
        clear hcc hx hbad hgo hw2
        go_wp2_with fail
        go_loopw [6, 7, 8] (fun v h i wb => ∃ (j : Nat) (o : Option ByteArray) (q2 : Nat), j ≤ n' ∧ i = .int .i64 j ∧ VH o v h ∧ Hid (valL (of.take j) nm = o) ∧ wb = w2.drewN q2) (fun _ _ i _ => n' - (intOf i).toNat)
        case atStart => exact ⟨0, none, 0, Nat.zero_le _, rfl, ⟨rfl, rfl⟩, Lib.hid rfl, rfl⟩
        case round =>
          obtain ⟨j, o, q2, hj, rfl, hvh, ho, rfl⟩ := hrel
          obtain ⟨w3, hw3⟩ : ∃ w3, w3 = w2.drewN q2 := ⟨_, rfl⟩
          have HW3 := Lib.hid hw3
          have P0 : w3.cell? ⟨b, off + k * 3, none⟩ = some (.int .i64 kd) := by rw [hw3]; exact p0
          have P1 : w3.cell? ⟨b, off + k * 3 + 1, none⟩ = some (.string nm) := by rw [hw3]; exact p1
          have P2 : w3.cell? ⟨b, off + k * 3 + 2, none⟩ = some (.string vl) := by rw [hw3]; exact p2
          by_cases hjl : j < n'
          · obtain ⟨y, hy⟩ : ∃ y, of[j]? = some y := ⟨_, List.getElem?_eq_getElem (by rw [hr'.1]; exact hjl)⟩
            have hr3 : Lv w3 B' A' n' of := by rw [hw3]; exact hr2.drewN q2
            obtain ⟨b', off', rfl, hbb', hcc'⟩ := hr3.at2 hjl
            obtain ⟨y0, y1⟩ := hcc' j y hy
            have hvt := val_take (n := nm) hy
            obtain ⟨yn, yv⟩ := y
            rw [ho.out] at hvt
            rw [← hw3]
            clear hcc' hy hw3 hr3 hr2 p0 p1 p2
            by_cases he : yn = nm
            · have e1 : (yn.toList == nm.toList) = true := by rw [he]; simp
              cases o with
              | none =>
                obtain ⟨rfl, rfl⟩ := hvh
                have HV : Hid (valL (of.take (j + 1)) nm = some yv) := by
                  show _ = _
                  rw [hvt]; simp [he]
                clear hvt he
                go_wp2_with fail
                go_quiet (fail)
                go_wp2_with fail
                go_roundw
                case rel => exact ⟨j + 1, some yv, _, by omega, by go_num, ⟨rfl, rfl⟩, HV, by rw [HW3.out]; exact World.drewN_drewN _ _ _⟩
                case measure => simp [intOf]; omega
              | some u =>
                obtain ⟨rfl, rfl⟩ := hvh
                have HV : Hid (valL (of.take (j + 1)) nm = some u) := hvt
                clear hvt he
                go_wp2_with fail
                go_quiet (fail)
                go_wp2_with fail
                go_roundw
                case rel => exact ⟨j + 1, some u, _, by omega, by go_num, ⟨rfl, rfl⟩, HV, by rw [HW3.out]; exact World.drewN_drewN _ _ _⟩
                case measure => simp [intOf]; omega
            · have e1 : (yn.toList == nm.toList) = false := by rw [eq_beq, decide_eq_false he]
              have HV : Hid (valL (of.take (j + 1)) nm = o) := by
                show _ = _
                rw [hvt]; cases o <;> simp [he]
              clear hvt he
              cases o with
              | none =>
                obtain ⟨rfl, rfl⟩ := hvh
                go_wp2_with fail
                go_quiet (fail)
                go_wp2_with fail
                go_roundw
                case rel => exact ⟨j + 1, none, _, by omega, by go_num, ⟨rfl, rfl⟩, HV, by rw [HW3.out]; exact World.drewN_drewN _ _ _⟩
                case measure => simp [intOf]; omega
              | some u =>
                obtain ⟨rfl, rfl⟩ := hvh
                go_wp2_with fail
                go_quiet (fail)
                go_wp2_with fail
                go_roundw
                case rel => exact ⟨j + 1, some u, _, by omega, by go_num, ⟨rfl, rfl⟩, HV, by rw [HW3.out]; exact World.drewN_drewN _ _ _⟩
                case measure => simp [intOf]; omega
          · obtain rfl : j = n' := by omega
            have hall : of.take j = of := by rw [← hr'.1]; exact List.take_length
            have hov := ho.out
            rw [hall] at hov
            have hV : vOf of nm = o.getD ⟨#[]⟩ := by unfold vOf; rw [hov]
            have hVs : (o.getD ⟨#[]⟩).size ≤ 1000000000000000 := by
              cases o with
              | none => exact Nat.zero_le _
              | some u =>
                have : ∀ m : List Lab, valL m nm = some u → ∃ z ∈ m, z.2 = u := by
                  intro m
                  induction m with
                  | nil => intro h; cases h
                  | cons a r ih =>
                    intro h
                    unfold valL at h
                    split at h
                    · injection h with h; exact ⟨a, List.mem_cons_self, h⟩
                    · obtain ⟨z, hz, e⟩ := ih h; exact ⟨z, List.mem_cons_of_mem _ hz, e⟩
                obtain ⟨z, hz, e⟩ := this of hov
                rw [← e]; exact HSZ.out z hz
            obtain ⟨V, hVV⟩ : ∃ V, V = o.getD ⟨#[]⟩ := ⟨_, rfl⟩
            obtain ⟨H, hH⟩ : ∃ H, H = o.isSome := ⟨_, rfl⟩
            have hvh2 : u6 = .string V ∧ u7 = .bool H := by
              rw [hVV, hH]
              cases o <;> exact hvh
            obtain ⟨rfl, rfl⟩ := hvh2
            have hs : (valL of nm).isSome = H := by rw [hov, hH]
            rw [← hVV] at hV hVs
            have HFV := Lib.hid (And.intro hV hs)
            rw [← hw3]
            clear hvh hov ho hV hs hVV hH hall hw3 hr2 p0 p1 p2
            try dsimp only at hkind
            rcases hkind with rfl | rfl | rfl | rfl
            · have he := eq_bool V vl
              by_cases hd : V = vl
              · have hf1 : fit1 of (1, nm, vl) = true := by
                  have h1 := HFV.out.1
                  unfold vOf at h1
                  unfold fit1
                  simp [h1, hd]
                rw [decide_eq_true hd] at he
                clear hd
                have HG := Lib.hid (HGO.out hf1)
                clear hf1
                go_wp2_with fail
                go_roundw
                case rel => exact ⟨k + 1, by omega, by go_num, HG, _, by rw [HW3.out, HW2.out]; simp only [World.drewN_drewN]; rfl⟩
                case measure => simp [intOf]; omega
              · have hf1 : fit1 of (1, nm, vl) = false := by
                  have h1 := HFV.out.1
                  unfold vOf at h1
                  unfold fit1
                  simp [h1, hd]
                rw [decide_eq_false hd] at he
                clear hd
                have HFB := Lib.hid (HBAD.out hf1)
                clear hf1
                go_wp2_with fail
                go_ret
                exact ⟨by rw [HFB.out]; rfl, _, by rw [HW3.out, HW2.out]; simp only [World.drewN_drewN]; rfl⟩
            · have he := eq_bool V vl
              by_cases hd : V = vl
              · have hf1 : fit1 of (2, nm, vl) = false := by
                  have h1 := HFV.out.1
                  unfold vOf at h1
                  unfold fit1
                  simp [h1, hd]
                rw [decide_eq_true hd] at he
                clear hd
                have HFB := Lib.hid (HBAD.out hf1)
                clear hf1
                go_wp2_with fail
                go_ret
                exact ⟨by rw [HFB.out]; rfl, _, by rw [HW3.out, HW2.out]; simp only [World.drewN_drewN]; rfl⟩
              · have hf1 : fit1 of (2, nm, vl) = true := by
                  have h1 := HFV.out.1
                  unfold vOf at h1
                  unfold fit1
                  simp [h1, hd]
                rw [decide_eq_false hd] at he
                clear hd
                have HG := Lib.hid (HGO.out hf1)
                clear hf1
                go_wp2_with fail
                go_roundw
                case rel => exact ⟨k + 1, by omega, by go_num, HG, _, by rw [HW3.out, HW2.out]; simp only [World.drewN_drewN]; rfl⟩
                case measure => simp [intOf]; omega
            · by_cases hle : vl.size ≤ V.size
              · have he := prefix_cut hle
                obtain ⟨R, hR⟩ : ∃ R, R = Lib.hasPrefix V.data.toList vl.data.toList := ⟨_, rfl⟩
                have hf1 : fit1 of (3, nm, vl) = R := by
                  have h1 := HFV.out.1
                  unfold vOf at h1
                  unfold fit1
                  simp [h1, hR]
                rw [← hR] at he
                have d1 : decide (vl.size ≤ V.size) = true := decide_eq_true hle
                have z1 : (vl.size : Int) ≤ (V.size : Int) := by omega
                clear hR
                cases R
                · have HFB := Lib.hid (HBAD.out hf1)
                  clear hf1
                  go_wp2_with fail
                  go_quiet (fail)
                  go_wp2_with fail
                  go_ret
                  exact ⟨by rw [HFB.out]; rfl, _, by rw [HW3.out, HW2.out]; simp only [World.drewN_drewN]; rfl⟩
                · have HG := Lib.hid (HGO.out hf1)
                  clear hf1
                  go_wp2_with fail
                  go_quiet (fail)
                  go_wp2_with fail
                  go_roundw
                  case rel => exact ⟨k + 1, by omega, by go_num, HG, _, by rw [HW3.out, HW2.out]; simp only [World.drewN_drewN]; rfl⟩
                  case measure => simp [intOf]; omega
              · have hf1 : fit1 of (3, nm, vl) = false := by
                  have h1 := HFV.out.1
                  unfold vOf at h1
                  unfold fit1
                  simp [h1, prefix_long hle]
                have d1 : decide (vl.size ≤ V.size) = false := decide_eq_false hle
                have HFB := Lib.hid (HBAD.out hf1)
                clear hf1
                go_wp2_with fail
                go_quiet (fail)
                go_wp2_with fail
                go_ret
                exact ⟨by rw [HFB.out]; rfl, _, by rw [HW3.out, HW2.out]; simp only [World.drewN_drewN]; rfl⟩
            · have hf1 : fit1 of (4, nm, vl) = H := HFV.out.2
              cases H
              · have HFB := Lib.hid (HBAD.out hf1)
                clear hf1
                go_wp2_with fail
                go_ret
                exact ⟨by rw [HFB.out]; rfl, _, by rw [HW3.out, HW2.out]; simp only [World.drewN_drewN]; rfl⟩
              · have HG := Lib.hid (HGO.out hf1)
                clear hf1
                go_wp2_with fail
                go_roundw
                case rel => exact ⟨k + 1, by omega, by go_num, HG, _, by rw [HW3.out, HW2.out]; simp only [World.drewN_drewN]; rfl⟩
                case measure => simp [intOf]; omega
      · obtain rfl : k = n := by omega
        have HE := Lib.hid (fits_ok (l := l) (of := of) HOK.out.1 (by rw [hr.1]; exact hv.out))
        clear hw2
        go_wp2_with fail
        go_ret
        exact ⟨by rw [HE.out]; rfl, _, rfl⟩
  · have hf := fits_no (of := of) h0
    obtain ⟨E, hE⟩ : ∃ E, E = chkE l := ⟨_, rfl⟩
    rw [← hE] at hck h0
    have e1 : (E != 0) = true := by simpa using h0
    have HF := Lib.hid hf
    have HCK := Lib.hid hck
    clear hf hck hE h0
    go_enter Try.func22, Try.ntmps22
    go_wp2_with fail
    refine HCK.out.mono ?_
    rintro e w1 ⟨rfl, hw1⟩; rw [hw1]; clear hw1 w1
    go_wp2_with fail
    go_ret
    exact ⟨by rw [HF.out]; rfl, 0, rfl⟩
end Go.Proofs.Ytlicnadbccjbjaa
