/- Read, New, Steps, Room, On, Fuse and Fault of a disk. Conditions: files of at most 10^9 bytes; a name of at most 10^15 bytes. -/
import Derived.Test.YtedjfbkfaioihaaApp
import Derived.WalkSpells
import Derived.Maps.AppendAt
namespace Go.Proofs.Ytedjfbkfaioihaa
open Go.RowKit Go.Shelf Go.Maps

theorem Rd.news {w : World} {B n : Nat} {ad : Addr} {xs : List Value} (h : Rd w B (some ad) n xs) : ∀ j u, xs[j]? = some u → w.cell? (ad.add j) = some u := by
  intro j u hu
  have hl : j < xs.length := (List.getElem?_eq_some_iff.1 hu).1
  obtain ⟨b, off, e, _, hc⟩ := h.2 (by rw [← h.1]; omega)
  have e := Option.some.inj e
  subst e
  have := hc j u hu
  rw [add_at]; exact this

set_option maxRecDepth 100000 in
set_option maxHeartbeats 1000000 in
theorem clone_any (A : Option Addr) (n c B : Nat) (xs : List Value) (w : World) (hr : Rd w B A n xs) (hB : B ≤ w.heap.size) (h1 : ∀ u ∈ xs, u.oneCell' = true) (hn : n ≤ 1000000000) :
    Calls Try.prog 52 #[.slice A n c] w fun e w' => ∃ v, e = .returned v ∧ w'.ownsRow w.heap.size 5 1 v n xs ∧ Below w.heap.size w w' := by
  obtain ⟨i0, hi, hz0, hz1, hz2⟩ := info_parts Try.info5'
  rcases A with _ | ad
  · have hn0 : n = 0 := by
      rcases Nat.eq_zero_or_pos n with h | h
      · exact h
      · obtain ⟨_, _, e, _⟩ := hr.2 h; cases e
    subst hn0
    have hx : xs = [] := List.eq_nil_of_length_eq_zero hr.1
    subst hx
    have hq := fun W => Lib.run_eql_slice_nil (P := Try.prog) W 31 5 none 0 c 0 0 Try.underlying31
    go_enter Try.func52, Try.ntmps52
    go_wp2_with fail
    go_ret
    exact ⟨_, rfl, World.ownsRow_nil _ _ _ _, Below.refl _ _⟩
  · have hnews : ∀ j u, xs[j]? = some u → (w.alloc (.cells #[] 5)).cell? (ad.add j) = some u := Rd.news (hr.keep fun x hx => Below.heap_alloc w _ x (by omega))
    have hown := World.ownsRow_made (base := w.heap.size) (size := 1) w #[] 0 (e := 5) (Nat.le_refl _) (by unfold maxLen; omega) (by simp)
    have hlen := hr.1
    have HH : Hid ((∀ j u, xs[j]? = some u → (w.alloc (.cells #[] 5)).cell? (ad.add j) = some u) ∧ xs.length = n) := ⟨hnews, hlen⟩
    clear hnews hlen
    have hq := fun W => Lib.run_eql_slice_nil (P := Try.prog) W 31 5 (some ad) n c 0 0 Try.underlying31
    go_enter Try.func52, Try.ntmps52
    go_wp2_with (at_builtin; refine wpList_append_own_at _ rfl (.tmp 5) (.tmp 6) 31 rfl w.heap.size 5 i0 (.int .u8 0) 1 1 Try.underlying31 hi hz0 hz1 hz2 rfl (by decide) _ 0 [] rfl hown ad n c xs rfl (by rw [HH.out.2, Nat.mul_one]) HH.out.1 h1 (by unfold maxLen; omega) (by omega) (by simp) ?_; intro v1 w1 hown1 hg1 _ hat1)
    go_ret
    rw [Nat.zero_add, List.nil_append] at hown1
    refine ⟨v1, rfl, hown1, ((Below.refl _ _).alloc (Nat.le_refl _) _).grown hg1 (by simp) (fun k hk => ?_)⟩
    have hk2 : w.heap.size = k := by injection hk
    omega


/-- What Read answers. -/
def readE (st : Ds) (n : ByteArray) : Int := if st.off = true then 12 else if hasp n.data.toList st.dir = true then 0 else 6
/-- The bytes that it tells. -/
def readB (st : Ds) (n : ByteArray) : List Nat := if st.off = true then [] else match fnd n.data.toList st.dir with | some j => (fl st.fs j).b | none => []
def ReadPost (w : World) (st : Ds) (n : ByteArray) (e : Ending) (w' : World) : Prop := ∃ v, e = .returned (.tuple #[v, .int .i64 (readE st n)]) ∧ w'.ownsRow w.heap.size 5 1 v (readB st n).length ((readB st n).map bv) ∧ Below w.heap.size w w'

set_option maxRecDepth 100000 in
set_option maxHeartbeats 2000000 in
theorem read19 (D : Nat) (n : ByteArray) (st : Ds) (φ : Nat → Prop) (w : World) (h : DK w φ D st) (hs : n.size ≤ 1000000000000000) (hb : ∀ x ∈ st.fs, x.b.length ≤ 1000000000) :
    Calls Try.prog 19 #[.pointer (some ⟨D, 0, none⟩), .string n] w (ReadPost w st n) := by
  obtain ⟨hφ, bn, bs, vp, Q, hk⟩ := h
  have c4 : w.cell? ⟨D, 4, none⟩ = some (.bool st.off) := hk.d.at_ rfl
  have c1 : w.cell? ⟨D, 1, none⟩ = some (.map (some bn)) := hk.d.at_ rfl
  cases hoff : st.off with
  | true =>
    rw [hoff] at c4
    have HE : Hid (readE st n = 12 ∧ readB st n = []) := Lib.hid ⟨by unfold readE; rw [if_pos hoff], by unfold readB; rw [if_pos hoff]⟩
    clear hk hφ hoff
    go_enter Try.func19, Try.ntmps19
    go_wp2_with fail
    go_ret2
    refine ⟨.slice none 0 0, ?_, ?_, Below.refl _ _⟩
    · rw [HE.out.1]; rfl
    · rw [HE.out.2]; exact World.ownsRow_nil _ _ _ _
  | false =>
    have noff : ¬ st.off = true := by rw [hoff]; decide
    rw [hoff] at c4
    have hlk := look_ok2 hk.now.m n (by unfold maxLen; omega)
    cases hf : fnd n.data.toList st.dir with
    | none =>
      have hh := fnd_none.1 hf
      rw [lkv_none hf, hh] at hlk
      have HE : Hid (readE st n = 6 ∧ readB st n = []) := Lib.hid ⟨by unfold readE; rw [if_neg noff, if_neg (by rw [hh]; decide)], by unfold readB; rw [if_neg noff, hf]⟩
      clear hk hφ hoff noff hf hh
      go_enter Try.func19, Try.ntmps19
      go_wp2_with fail
      go_ret2
      refine ⟨.slice none 0 0, ?_, ?_, Below.refl _ _⟩
      · rw [HE.out.1]; rfl
      · rw [HE.out.2]; exact World.ownsRow_nil _ _ _ _
    | some j =>
      have hh := (fnd_some hf).1
      obtain ⟨q, hq, hFq, hx, hat, _⟩ := hk.file hf
      rw [lkv_some hf, hFq, hh] at hlk
      obtain ⟨A2, c2, hqs, hrd, _, _, _⟩ := hat.b.form
      have g0 : w.cell? ⟨q.1, 0, none⟩ = some (.slice A2 (fl st.fs j).b.length c2) := by rw [← hqs]; exact hat.a.at_ rfl
      have hcl := clone_any A2 _ c2 w.heap.size _ w hrd (Nat.le_refl _) (bv_one _) (hb _ (List.mem_of_getElem? hx))
      have HE : Hid (readE st n = 0 ∧ readB st n = (fl st.fs j).b) := Lib.hid ⟨by unfold readE; rw [if_neg noff, if_pos hh], by unfold readB; rw [if_neg noff, hf]⟩
      obtain ⟨bb, hbb⟩ : ∃ bb, bb = (fl st.fs j).b := ⟨_, rfl⟩
      rw [← hbb] at g0 hcl HE
      clear hk hφ hoff noff hf hh hq hx hat hqs hrd hFq hbb
      obtain ⟨qa, qv⟩ := q
      simp only at g0 hlk
      go_enter Try.func19, Try.ntmps19
      go_wp2_with fail
      refine hcl.mono ?_
      clear hcl
      rintro e w1 ⟨v, rfl, hown, hb1⟩
      have HO := Lib.hid (And.intro hown hb1)
      clear hown hb1
      go_wp2_with fail
      go_ret2
      refine ⟨v, ?_, ?_, HO.out.2⟩
      · rw [HE.out.1]; rfl
      · rw [HE.out.2]; exact HO.out.1

set_option maxRecDepth 100000 in
set_option maxHeartbeats 1000000 in
theorem steps27 (D : Nat) (st : Ds) (φ : Nat → Prop) (w : World) (h : DK w φ D st) : Calls Try.prog 27 #[.pointer (some ⟨D, 0, none⟩)] w fun e w' => e = .returned (.int .i64 st.steps) ∧ w' = w := by
  obtain ⟨hφ, bn, bs, vp, Q, hk⟩ := h
  have c7 : w.cell? ⟨D, 7, none⟩ = some (.int .i64 st.steps) := hk.d.at_ rfl
  clear hk hφ
  go_enter Try.func27, Try.ntmps27
  go_wp2_with fail
  go_ret
  exact ⟨rfl, rfl⟩
set_option maxRecDepth 100000 in
set_option maxHeartbeats 1000000 in
theorem on26 (D : Nat) (st : Ds) (φ : Nat → Prop) (w : World) (h : DK w φ D st) : Calls Try.prog 26 #[.pointer (some ⟨D, 0, none⟩)] w fun e w' => e = .returned (.bool (!st.off)) ∧ w' = w := by
  obtain ⟨hφ, bn, bs, vp, Q, hk⟩ := h
  have c4 : w.cell? ⟨D, 4, none⟩ = some (.bool st.off) := hk.d.at_ rfl
  clear hk hφ
  go_enter Try.func26, Try.ntmps26
  go_wp2_with fail
  go_ret
  exact ⟨rfl, rfl⟩
set_option maxRecDepth 100000 in
set_option maxHeartbeats 1000000 in
theorem num17 (c : Int) (w : World) : Calls Try.prog 17 #[.int .i64 c] w fun e w' => e = .returned (.int .i64 c) ∧ w' = w := by
  go_enter Try.func17, Try.ntmps17
  go_wp2_with fail
  go_ret
  exact ⟨rfl, rfl⟩

/-- A disk of its own. -/
def newD (q : Int) : Ds := ⟨min (max 0 q) 67108864, [], [], [], [], false, -1, -1, 0⟩
theorem inv_new (q : Int) : Inv (newD q) :=
  ⟨fun e he => by (cases he), fun e he => by (cases he), fun e he => by (cases he), ris_nil, ris_nil, List.nodup_nil, List.nodup_nil, fun e he => by (cases he), by show 0 ≤ min (max 0 q) 67108864 ∧ min (max 0 q) 67108864 ≤ 67108864; omega, by show (-1 : Int) ≤ -1 ∧ (-1 : Int) ≤ 9223372036854775807; omega, by show (-1 : Int) ≤ -1 ∧ (-1 : Int) ≤ 9223372036854775807; omega, by show (0 : Int) ≤ 0; omega⟩
set_option maxRecDepth 100000 in
set_option maxHeartbeats 1000000 in
theorem new12 (q : Int) (w : World) : Calls Try.prog 12 #[.int .i64 q] w fun e w' => ∃ D, e = .returned (.pointer (some ⟨D, 0, none⟩)) ∧ DK w' (fun x => w.heap.size ≤ x ∧ x < w'.heap.size) D (newD q) ∧ Below w.heap.size w w' := by
  have hmm := @run_makeMap Try.prog
  go_enter Try.func12, Try.ntmps12
  go_wp2_with fail
  go_ret
  have h1 := World.ownsMap_made w Try.prog 9 plr
  have h2 := World.ownsMap_made (w.alloc (.map #[] 0)) Try.prog 9 plr
  rw [World.size_alloc] at h2
  have hA := Arr.new ((w.alloc (.map #[] 0)).alloc (.map #[] 0)) 64 (dcs w.heap.size (w.heap.size + 1) (.slice none 0 0) (newD q))
  rw [World.size_alloc, World.size_alloc] at hA

  refine ⟨w.heap.size + 1 + 1, rfl, ⟨fun x hx => hx.2, w.heap.size, w.heap.size + 1, .slice none 0 0, [], ?_⟩, (((Below.refl _ w).alloc (Nat.le_refl _) _).alloc (by simp) _).alloc (by simp; omega) _⟩
  refine ⟨hA, ⟨by omega, by simp <;> omega⟩, by omega, ⟨⟨Nat.le_refl _, by simp <;> omega⟩, ?_⟩, ⟨⟨by omega, by simp <;> omega⟩, ?_⟩, ⟨[], World.ownsRow_nil _ _ _ _, fun x hx => by (cases hx), fun i v a hv _ => by (simp at hv)⟩, ⟨rfl, fun j q x hq _ => by (simp at hq), fun i j q r hq _ _ => by (simp at hq)⟩, inv_new q⟩
  · exact own_heap h1 ((Below.heap_alloc _ _ _ (by simp; omega)).trans (Below.heap_alloc _ _ _ (by simp)))
  · exact own_heap h2 (Below.heap_alloc _ _ _ (by simp))
end Go.Proofs.Ytedjfbkfaioihaa
