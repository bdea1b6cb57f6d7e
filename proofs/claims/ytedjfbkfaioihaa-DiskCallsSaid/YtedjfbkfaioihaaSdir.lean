/- SyncDir of a disk: what it answers and leaves. Conditions: 10^9 steps. -/
import Derived.Test.YtedjfbkfaioihaaRen
import Derived.Test.YtedjfbkfaioihaaLays
namespace Go.Proofs.Ytedjfbkfaioihaa
open Go.RowKit Go.Shelf Go.Maps

theorem clone58 {φ : Nat → Prop} (b : Nat) (F : Nat → Nat) (L : List En) (w : World) (h : Mp w φ b F L) :
    Calls Try.prog 58 #[.map (some b)] w fun e w' => e = .returned (.map (some w.heap.size)) ∧ w'.ownsMap Try.prog 9 plr w.heap.size L.length (dat F L) ∧ Below w.heap.size w w' := by
  have h1 := AnyW.maps_Clone_owns Try.cloneM 9 plr b L.length (dat F L) w h.m
  change Calls Try.prog 58 _ _ _ at h1
  exact h1.mono fun e w' hp => ⟨hp.1, hp.2.1, hp.2.2.2⟩
/-- All but the disk's own cells is as it was. -/
theorem Dk.rest {w w' : World} {φ : Nat → Prop} {D bn bs : Nat} {vp : Value} {Q : List (Nat × Value)} {st : Ds} (h : Dk w φ D bn bs vp Q st) (hk : ∀ x, x ≠ D → φ x → x < w.heap.size → w'.heap[x]? = w.heap[x]?) :
    Mp w' φ bn (Fq Q) st.dir ∧ Mp w' φ bs (Fq Q) st.sure ∧ Pn w' φ (Fq Q) vp st.acts ∧ Fis w' φ Q st.fs := by
  have hD := h.d.ty
  have ne : ∀ x, ty w x ≠ some 64 → x ≠ D := fun x hx e => hx (by rw [e]; exact hD)
  refine ⟨?_, ?_, ?_, ?_⟩
  · exact (h.now.ty.keep fun x hx hl => hk x (ne x (by rw [hx.2.2]; simp)) hx.1 hl).mono fun _ h => h.1
  · exact (h.sure.ty.keep fun x hx hl => hk x (ne x (by rw [hx.2.2]; simp)) hx.1 hl).mono fun _ h => h.1
  · exact (h.pend.ty.keep fun x hx hl => hk x (ne x (by rcases hx.2 with e | e | e <;> rw [e] <;> simp)) hx.1 hl).mono fun _ h => h.1
  · exact (h.fs.ty.keep fun x hx hl => hk x (ne x (by rcases hx.2 with e | e <;> rw [e] <;> simp)) hx.1 hl).mono fun _ h => h.1
theorem inv_sync {st : Ds} (h : Inv st) (n m : ByteArray) (b : List Nat) : Inv (doS st 5 n m b) :=
  ⟨h.dir, h.dir, fun a ha => by (cases ha), h.risd, h.risd, h.one, by (show (st.dir.map En.f ++ []).Nodup; simpa using h.one), h.fs, h.quota, h.fuse, h.fault, h.steps⟩

set_option maxRecDepth 100000 in
set_option maxHeartbeats 1000000 in
theorem sdir56 (own : Int) (h : own = 0) (w : World) : Calls Try.prog 56 #[] w (AskPost w own) := by
  subst h
  go_enter Try.func56, Try.ntmps56
  go_wp2_with fail
  go_end0
  exact AskPost.yes (Below.refl _ _)

set_option maxRecDepth 100000 in
set_option maxHeartbeats 2000000 in
theorem sdir57 (D pd : Nat) (n m : ByteArray) (b : List Nat) (st : Ds) (φ : Nat → Prop) (w : World) (h : DK w φ D st) (hd : Arr w pd 23 #[.pointer (some ⟨D, 0, none⟩)]) (hpd : ¬ φ pd) :
    Calls Try.prog 57 #[.pointer (some ⟨pd, 0, none⟩)] w (DoPost w φ D (doS st 5 n m b)) := by
  obtain ⟨hφ, bn, bs, vp, Q, hk⟩ := h
  have cd : w.cell? ⟨pd, 0, none⟩ = some (.pointer (some ⟨D, 0, none⟩)) := hd.at_ rfl
  have c1 : w.cell? ⟨D, 1, none⟩ = some (.map (some bn)) := hk.d.at_ rfl
  have hcl := clone58 bn (Fq Q) st.dir w.drew (φ := φ) (hk.now.keep fun _ _ _ => rfl)
  have hcs : Hid (∀ W, Below w.heap.size w W → W.cell? ⟨pd, 0, none⟩ = some (.pointer (some ⟨D, 0, none⟩)) ∧ W.cell? ⟨D, 1, none⟩ = some (.map (some bn)) ∧ W.cell? ⟨D, 2, none⟩ = some (.map (some bs)) ∧ W.cell? ⟨D, 3, none⟩ = some vp ∧ W.frozen? ⟨D, 2, none⟩ = false ∧ W.frozen? ⟨D, 3, none⟩ = false) := Lib.hid fun W hb =>
    ⟨(hd.below hb hd.lt).at_ rfl, (hk.d.below hb hk.d.lt).at_ rfl, (hk.d.below hb hk.d.lt).at_ rfl, (hk.d.below hb hk.d.lt).at_ rfl, (hk.d.below hb hk.d.lt).frozen _, (hk.d.below hb hk.d.lt).frozen _⟩
  have hne : pd ≠ D := fun e => hpd (by rw [e]; exact hk.pd)
  have HF : Hid (∀ W w0, Below w.heap.size w W → W.ownsMap Try.prog 9 plr w.heap.size st.dir.length (dat (Fq Q) st.dir) → Arr w0 D 64 (dcs bn w.heap.size (.slice none 0 0) (doS st 5 n m b)) → Kp (fun x => x = D) W w0 → DoPost w φ D (doS st 5 n m b) (.returned (.tuple #[])) w0) := by
    refine Lib.hid fun W w0 hb hm hA hk0 => ?_
    have hs : w.heap.size ≤ w0.heap.size := Nat.le_trans hb.size hk0.size
    have hmD : w.heap.size ≠ D := fun e => by have := hφ D hk.pd; omega
    have hdlt := hφ D hk.pd
    obtain ⟨p1, _, _, p4⟩ := hk.rest (w' := w0) fun x hx _ hl => (hk0.block x (Nat.lt_of_lt_of_le hl hb.size) hx).trans (hb.block x hl)
    have hm0 : w0.ownsMap Try.prog 9 plr w.heap.size st.dir.length (dat (Fq Q) st.dir) := own_heap hm (hk0.block w.heap.size hm.lt hmD)
    refine ⟨rfl, ⟨wid_lt hφ hs, bn, w.heap.size, .slice none 0 0, Q, hA, .inl hk.pd, fun e => ?_, p1.mono fun _ h => .inl h, ⟨.inr ⟨Nat.le_refl _, hm0.lt⟩, hm0⟩, ⟨[], World.ownsRow_nil _ _ _ _, fun x hx => by (cases hx), fun i v a hv _ => by (simp at hv)⟩, p4.mono fun _ h => .inl h, inv_sync hk.inv n m b⟩, ?_⟩
    · have := hφ bn hk.now.p; omega
    · exact (Kp.none_of_below (S := φ) hb).trans (hk0.mono fun x _ e => by rw [e]; exact hk.pd) (fun _ _ h => h)
  have hAD : Hid (∀ W w0, Below w.heap.size w W → (w0 = (W.setCell ⟨D, 2, none⟩ (.map (some w.heap.size))).setCell ⟨D, 3, none⟩ (.slice none 0 0) ∨ w0 = (W.setCell ⟨D, 3, none⟩ (.slice none 0 0)).setCell ⟨D, 2, none⟩ (.map (some w.heap.size))) → Arr w0 D 64 (dcs bn w.heap.size (.slice none 0 0) (doS st 5 n m b)) ∧ Kp (fun x => x = D) W w0) := by
    refine Lib.hid fun W w0 hb h0 => ?_
    have hA := hk.d.below hb hk.d.lt
    rcases h0 with rfl | rfl
    · exact ⟨(hA.set 2 (.map (some w.heap.size))).set 3 (.slice none 0 0), (Kp.set (fun x => x = D) W D 2 _ rfl).trans (Kp.set (fun x => x = D) _ D 3 _ rfl) (fun _ _ h => h)⟩
    · exact ⟨(hA.set 3 (.slice none 0 0)).set 2 (.map (some w.heap.size)), (Kp.set (fun x => x = D) W D 3 _ rfl).trans (Kp.set (fun x => x = D) _ D 2 _ rfl) (fun _ _ h => h)⟩
  have hkS : Hid (∀ (W : World) (v : Value) (i : Nat), i ≠ 1 → W.cell? ⟨pd, 0, none⟩ = some (.pointer (some ⟨D, 0, none⟩)) ∧ W.cell? ⟨D, 1, none⟩ = some (.map (some bn)) → (W.setCell ⟨D, i, none⟩ v).cell? ⟨pd, 0, none⟩ = some (.pointer (some ⟨D, 0, none⟩)) ∧ (W.setCell ⟨D, i, none⟩ v).cell? ⟨D, 1, none⟩ = some (.map (some bn))) := by
    refine Lib.hid fun W v i hi h => ⟨?_, ?_⟩
    · rw [World.cell?_setCell_far _ _ _ _ (by show D ≠ pd; exact fun e => hne e.symm)]; exact h.1
    · rw [World.cell?_setCell_other _ _ _ _ (by intro e; injection e with _ e2; exact hi e2)]; exact h.2
  have hDw : w.drew.heap.size = w.heap.size := rfl
  rw [hDw] at hcl
  clear hd hk hφ hpd hDw
  go_enter Try.func57, Try.ntmps57
  go_wp2_with fail
  go_region_held3 (fun w' => w'.cell? ⟨pd, 0, none⟩ = some (.pointer (some ⟨D, 0, none⟩)) ∧ w'.cell? ⟨D, 1, none⟩ = some (.map (some bn))) (first | go_keep | exact ⟨cd, c1⟩ | exact ⟨s0, s1⟩ | exact hkS.out _ _ 2 (by decide) ⟨s0, s1⟩ | exact hkS.out _ _ 3 (by decide) ⟨s0, s1⟩ | exact hkS.out _ _ 3 (by decide) (hkS.out _ _ 2 (by decide) ⟨s0, s1⟩) | exact hkS.out _ _ 2 (by decide) (hkS.out _ _ 3 (by decide) ⟨s0, s1⟩)) (first | (go_at_call 58; refine hcl.mono ?_; rintro r5 w5 ⟨rfl, hm5, hb5'⟩; have hb5 : Below w.heap.size w w5 := (Below.refl _ w).drew.trans hb5'; obtain ⟨s0, s1, s2, s3, f2, f3⟩ := hcs.out _ hb5))
  all_goals
    go_wp2_with fail
    go_end0
    first
      | exact HF.out w5 _ hb5 hm5 (hAD.out w5 _ hb5 (.inl rfl)).1 (hAD.out w5 _ hb5 (.inl rfl)).2
      | exact HF.out w5 _ hb5 hm5 (hAD.out w5 _ hb5 (.inr rfl)).1 (hAD.out w5 _ hb5 (.inr rfl)).2
theorem Try.enters56 : Enters Try.prog 56 := enters_of Try.func56 (by kernel_rfl) rfl
theorem Try.enters57 : Enters Try.prog 57 := enters_of Try.func57 (by kernel_rfl) rfl

set_option maxRecDepth 100000 in
set_option maxHeartbeats 2000000 in
theorem sdir22 (D : Nat) (st : Ds) (φ : Nat → Prop) (w : World) (h : DK w φ D st) (hst : st.steps ≤ 1000000000) :
    Calls Try.prog 22 #[.pointer (some ⟨D, 0, none⟩)] w (DPost w φ D (stepE st 0) (stepS st 0 (doS st 5 noname noname []))) := by
  have hmf := Try.make
  obtain ⟨W0, hW0⟩ : ∃ W0, W0 = w.alloc (.cells #[.pointer (some ⟨D, 0, none⟩)] 23) := ⟨_, rfl⟩
  have hb0 : Below w.heap.size w W0 := by rw [hW0]; exact (Below.refl _ w).alloc (Nat.le_refl _) _
  have hd0 : Arr W0 w.heap.size 23 #[.pointer (some ⟨D, 0, none⟩)] := by rw [hW0]; exact Arr.new w 23 _
  have hK := h.below hb0 (Nat.le_refl _)
  have hstep : Hid (Calls Try.prog 37 #[.pointer (some ⟨D, 0, none⟩), .func (.func 56) #[] #[], .func (.func 57) #[] #[.pointer (some ⟨w.heap.size, 0, none⟩)]] W0 (DPost W0 φ D (stepE st 0) (stepS st 0 (doS st 5 noname noname [])))) := by
    refine Lib.hid (step_all D 56 57 _ _ st _ φ _ W0 hK hst Try.enters56 Try.enters57 ⟨rfl, rfl, rfl, rfl, rfl⟩ ?_ ?_)
    · intro _ W _ _
      exact sdir56 0 rfl W
    · intro _ _ W hb' _
      exact sdir57 D _ noname noname [] st φ W (hK.below hb' (Nat.le_refl _)) (hd0.below hb' hd0.lt) (fun hx => by have := h.1 _ hx; omega)
  have HX := Lib.hid (And.intro hb0 h)
  clear hb0 hd0 hK h
  go_enter Try.func22, Try.ntmps22
  go_wp2_with fail
  rw [← hW0]
  refine hstep.out.mono ?_
  clear hstep
  intro e w1 hp
  have HF := Lib.hid (DPost.late HX.out.2 HX.out.1 hp)
  obtain ⟨rfl, _, _⟩ := hp
  go_wp2_with fail
  go_ret
  exact HF.out
end Go.Proofs.Ytedjfbkfaioihaa
