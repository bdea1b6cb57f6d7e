/- The plain law of chunks: what is packed is unpacked, with anything behind it, and what is unpacked was packed so. Condition: ints. -/
import Derived.Test.YtnbamngancchmaaCpack
import Derived.Test.YtnbamngancchmaaPart
import Derived.Test.YtnbamngancchmaaVunpack
namespace Go.Proofs.Ytnbamngancchmaa
open Go.RowKit PB PC

def unpackC (l : List Nat) : Option (List (Int × Int) × Nat) :=
  (vget l).bind fun a => if wrap64 (a.1 : Int) < 1 ∨ 120 < wrap64 (a.1 : Int) then none else
    (cutL (l.drop a.2)).bind fun x => (cutL (l.drop (a.2 + x.2))).bind fun y =>
      (PS.unpack x.1 (wrap64 (a.1 : Int)).toNat).bind fun t => (PV.unpackV none y.1 (wrap64 (a.1 : Int)).toNat).map fun v => (t.zip v, a.2 + x.2 + y.2)
theorem cutL_lt {b x : List Nat} {e : Nat} (hb : ∀ y ∈ b, y < 256) (h : cutL b = some (x, e)) : e ≤ b.length ∧ b.take e = lenB x ∧ (∀ y ∈ x, y < 256) := by
  unfold cutL at h
  cases hv : vget b with
  | none => rw [hv] at h; cases h
  | some uk =>
    obtain ⟨u, k⟩ := uk
    rw [hv, Option.bind_some] at h
    split at h
    · rename_i hle
      simp only [] at hle
      injection h with h
      injection h with h1 h2
      simp only [] at h1 h2
      obtain ⟨hu, _, hk, ht⟩ := vget_back hb hv
      subst h1 h2
      have hxl : ((b.drop k).take u).length = u := by rw [List.length_take, List.length_drop]; omega
      refine ⟨hle, ?_, fun y hy => hb y (List.mem_of_mem_drop (List.mem_of_mem_take hy))⟩
      unfold lenB
      rw [hxl, ← ht, List.take_add]
    · cases h
theorem cutL_lenB (x r : List Nat) (hx : x.length < 18446744073709551616) : cutL (lenB x ++ r) = some (x, (lenB x).length) := by
  unfold cutL lenB
  rw [List.append_assoc, vget_put hx, Option.bind_some, if_pos (by simp only [List.length_append]; omega), List.drop_append_of_le_length (Nat.le_refl _), List.drop_length, List.nil_append, List.take_append_of_le_length (Nat.le_refl _), List.take_length, List.length_append]
theorem unpack_some {x : List Nat} {n : Nat} {t : List Int} (h : PS.unpack x n = some t) : t.length = n ∧ PS.packE t = 0 ∧ PS.packB t = x := by
  unfold PS.unpack at h
  cases hr : PS.runS (bitsOf x) n with
  | none => rw [hr] at h; cases h
  | some s =>
    rw [hr, Option.bind_some] at h
    split at h
    · rename_i hc
      injection h with h
      subst h
      exact ⟨PS.runS_length hr, hc.1, hc.2⟩
    · cases h
theorem unpackV_some {x : List Nat} {n : Nat} {t : List Int} (h : PV.unpackV none x n = some t) : t.length = n ∧ PV.packEV t = 0 ∧ PV.packBV t = x := by
  unfold PV.unpackV at h
  cases hr : PV.runV none (bitsOf x) n with
  | none => rw [hr] at h; cases h
  | some s =>
    rw [hr, Option.bind_some] at h
    split at h
    · rename_i hc
      injection h with h
      subst h
      exact ⟨PV.runV_length hr, hc.1, hc.2⟩
    · cases h
theorem fsts_zip {t v : List Int} (h : t.length = v.length) : fsts (t.zip v) = t := by unfold fsts; exact List.map_fst_zip (by omega)
theorem snds_zip {t v : List Int} (h : t.length = v.length) : snds (t.zip v) = v := by unfold snds; exact List.map_snd_zip (by omega)
theorem zip_cols (s : List (Int × Int)) : (fsts s).zip (snds s) = s := by
  induction s with
  | nil => rfl
  | cons a s ih => simp only [fsts, snds, List.map_cons, List.zip_cons_cons] at ih ⊢; rw [ih]
theorem unpackC_of {l x y : List Nat} {u k e1 e2 : Nat} (h1 : vget l = some (u, k)) (hn1 : 1 ≤ wrap64 (u : Int)) (hn2 : wrap64 (u : Int) ≤ 120) (h2 : cutL (l.drop k) = some (x, e1)) (h3 : cutL (l.drop (k + e1)) = some (y, e2)) :
    unpackC l = (PS.unpack x (wrap64 (u : Int)).toNat).bind fun t => (PV.unpackV none y (wrap64 (u : Int)).toNat).map fun v => (t.zip v, k + e1 + e2) := by
  unfold unpackC
  rw [h1, Option.bind_some, if_neg (by simp only []; omega), h2, Option.bind_some, h3, Option.bind_some]
theorem unpackC_n1 {l : List Nat} (h1 : vget l = none) : unpackC l = none := by unfold unpackC; rw [h1]; rfl
theorem unpackC_n2 {l : List Nat} {u k : Nat} (h1 : vget l = some (u, k)) (hn : wrap64 (u : Int) < 1 ∨ 120 < wrap64 (u : Int)) : unpackC l = none := by unfold unpackC; rw [h1, Option.bind_some, if_pos hn]
theorem unpackC_n3 {l : List Nat} {u k : Nat} (h1 : vget l = some (u, k)) (h2 : cutL (l.drop k) = none) : unpackC l = none := by
  unfold unpackC; rw [h1, Option.bind_some]
  split
  · rfl
  · rw [h2]; rfl
theorem unpackC_n4 {l x : List Nat} {u k e1 : Nat} (h1 : vget l = some (u, k)) (h2 : cutL (l.drop k) = some (x, e1)) (h3 : cutL (l.drop (k + e1)) = none) : unpackC l = none := by
  unfold unpackC; rw [h1, Option.bind_some]
  split
  · rfl
  · rw [h2, Option.bind_some, h3]; rfl
theorem unpackC_n5 {l x y : List Nat} {u k e1 e2 : Nat} (h1 : vget l = some (u, k)) (h2 : cutL (l.drop k) = some (x, e1)) (h3 : cutL (l.drop (k + e1)) = some (y, e2)) (h4 : PS.unpack x (wrap64 (u : Int)).toNat = none) : unpackC l = none := by
  unfold unpackC; rw [h1, Option.bind_some]
  split
  · rfl
  · rw [h2, Option.bind_some, h3, Option.bind_some, h4]; rfl
theorem unpackC_n6 {l x y : List Nat} {u k e1 e2 : Nat} (h1 : vget l = some (u, k)) (h2 : cutL (l.drop k) = some (x, e1)) (h3 : cutL (l.drop (k + e1)) = some (y, e2)) (h4 : PV.unpackV none y (wrap64 (u : Int)).toNat = none) : unpackC l = none := by
  unfold unpackC; rw [h1, Option.bind_some]
  split
  · rfl
  · rw [h2, Option.bind_some, h3, Option.bind_some, h4]
    cases PS.unpack x (wrap64 (u : Int)).toNat <;> rfl
theorem sg_nat {u : Nat} (hu : u < 18446744073709551616) (h1 : 1 ≤ wrap64 (u : Int)) (h2 : wrap64 (u : Int) ≤ 120) : (wrap64 (u : Int)).toNat = u ∧ u ≠ 0 := by unfold wrap64 at h1 h2 ⊢; omega
/-- What is unpacked was packed so. -/
theorem unpackC_back {l x y : List Nat} {u k e1 e2 : Nat} {t v : List Int} (hb : ∀ z ∈ l, z < 256) (h1 : vget l = some (u, k)) (hn1 : 1 ≤ wrap64 (u : Int)) (hn2 : wrap64 (u : Int) ≤ 120) (h2 : cutL (l.drop k) = some (x, e1)) (h3 : cutL (l.drop (k + e1)) = some (y, e2))
    (h4 : PS.unpack x (wrap64 (u : Int)).toNat = some t) (h5 : PV.unpackV none y (wrap64 (u : Int)).toNat = some v) :
    unpackC l = some (t.zip v, k + e1 + e2) ∧ packCE (t.zip v) = 0 ∧ packCB (t.zip v) = l.take (k + e1 + e2) ∧ k + e1 + e2 ≤ l.length := by
  have hC := unpackC_of h1 hn1 hn2 h2 h3
  obtain ⟨hu, _, hkl, ht⟩ := vget_back hb h1
  obtain ⟨hun, hu0⟩ := sg_nat hu hn1 hn2
  rewrite [hun] at h4 h5 hC
  clear hn1 hn2 hun
  obtain ⟨a1, a2, _⟩ := cutL_lt (fun z hz => hb z (List.mem_of_mem_drop hz)) h2
  obtain ⟨b1, b2, _⟩ := cutL_lt (fun z hz => hb z (List.mem_of_mem_drop hz)) h3
  obtain ⟨t1, t2, t3⟩ := unpack_some h4
  obtain ⟨v1, _, v3⟩ := unpackV_some h5
  have hlen : t.length = v.length := t1.trans v1.symm
  have hzl : (t.zip v).length = u := by rewrite [List.length_zip, t1, v1]; exact Nat.min_self u
  have hle : k + e1 + e2 ≤ l.length := by
    clear h1 h2 h3 h4 h5 hC ht a2 b2 t2 t3 v3
    rewrite [List.length_drop] at a1 b1
    omega
  have hE : packCE (t.zip v) = 0 := by unfold packCE; rewrite [if_neg (by rewrite [hzl]; exact hu0), fsts_zip hlen]; exact t2
  refine ⟨?_, hE, ?_, hle⟩
  · rewrite [hC, h4, Option.bind_some, h5, Option.map_some]; exact Eq.refl _
  · unfold packCB
    rewrite [if_pos hE, fsts_zip hlen, snds_zip hlen, t3, v3, hzl, ← ht, ← a2, ← b2, List.take_add, List.take_add]
    exact Eq.refl _
/-- What is packed is unpacked, with anything behind it. -/
theorem unpackC_pack {s : List (Int × Int)} (hin : PV.In64 (snds s)) (h : packCE s = 0) (r : List Nat) : unpackC (packCB s ++ r) = some (s, (packCB s).length) := by
  obtain ⟨z1, z2, z3, z4⟩ := packCE_zero h
  have hu := PS.unpack_pack z3
  have hv := PV.unpackV_pack none hin z4
  rewrite [fsts_len] at hu
  rewrite [snds_len] at hv
  obtain ⟨a, ha⟩ : ∃ a, a = PS.packB (fsts s) := ⟨_, rfl⟩
  obtain ⟨c, hc⟩ : ∃ c, c = PV.packBV (snds s) := ⟨_, rfl⟩
  have has := packB_small (fsts s)
  have hcs := packBV_small (snds s)
  have e0 : packCB s = (vput s.length ++ lenB a) ++ lenB c := by unfold packCB; rewrite [if_pos h, ← ha, ← hc]; exact Eq.refl _
  rewrite [← ha] at has hu
  rewrite [← hc] at hcs hv
  obtain ⟨n, hn⟩ : ∃ n, n = s.length := ⟨_, rfl⟩
  rewrite [← hn] at z1 z2 hu hv e0
  have hn64 : n < 18446744073709551616 := by omega
  have ha64 : a.length < 18446744073709551616 := by omega
  have hc64 : c.length < 18446744073709551616 := by omega
  have hw : wrap64 ((n : Nat) : Int) = (n : Int) := by unfold wrap64; omega
  have hw1 : 1 ≤ wrap64 ((n : Nat) : Int) := by rewrite [hw]; omega
  have hw2 : wrap64 ((n : Nat) : Int) ≤ 120 := by rewrite [hw]; omega
  have hwn : (wrap64 ((n : Nat) : Int)).toNat = n := by rewrite [hw]; exact Int.toNat_natCast n
  have e : packCB s ++ r = vput n ++ (lenB a ++ (lenB c ++ r)) := by rewrite [e0, List.append_assoc, List.append_assoc]; exact Eq.refl _
  have el : (packCB s).length = (vput n).length + (lenB a).length + (lenB c).length := by rewrite [e0, List.length_append, List.length_append]; exact Eq.refl _
  have h1 : vget (packCB s ++ r) = some (n, (vput n).length) := by rewrite [e]; exact vget_put hn64 _
  have d1 : (packCB s ++ r).drop (vput n).length = lenB a ++ (lenB c ++ r) := by
    rewrite [e, List.drop_append_of_le_length (Nat.le_refl _), List.drop_length, List.nil_append]; exact Eq.refl _
  have d2 : (packCB s ++ r).drop ((vput n).length + (lenB a).length) = lenB c ++ r := by
    rewrite [← List.drop_drop, d1, List.drop_append_of_le_length (Nat.le_refl _), List.drop_length, List.nil_append]; exact Eq.refl _
  have hC := unpackC_of h1 hw1 hw2 (by rewrite [d1]; exact cutL_lenB a _ ha64) (by rewrite [d2]; exact cutL_lenB c _ hc64)
  rewrite [hC, hwn, hu, Option.bind_some, hv, Option.map_some, el, zip_cols]
  exact Eq.refl _
end Go.Proofs.Ytnbamngancchmaa
