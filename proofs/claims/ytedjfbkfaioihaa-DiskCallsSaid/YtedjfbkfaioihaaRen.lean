/- Rename of a disk: what it answers and leaves. Conditions: at most 10^6 names and acts, 10^9 steps; names of at most 10^15 bytes. -/
import Derived.Test.YtedjfbkfaioihaaRem
namespace Go.Proofs.Ytedjfbkfaioihaa
open Go.RowKit Go.Shelf Go.Maps

/-- One file has one name. -/
theorem one_name {L : List En} (h : (L.map En.f).Nodup) {e1 e2 : En} (h1 : e1 ∈ L) (h2 : e2 ∈ L) (hf : e1.f = e2.f) : e1 = e2 := by
  induction L with
  | nil => cases h1
  | cons a r ih =>
    rw [List.map_cons, List.nodup_cons] at h
    rcases List.mem_cons.1 h1 with k1 | k1
    · rcases List.mem_cons.1 h2 with k2 | k2
      · rw [k1, k2]
      · exact absurd (List.mem_map.2 ⟨e2, k2, by rw [← hf, k1]⟩) h.1
    · rcases List.mem_cons.1 h2 with k2 | k2
      · exact absurd (List.mem_map.2 ⟨e1, k1, by rw [hf, k2]⟩) h.1
      · exact ih h.2 k1 k2
theorem doS3 {st : Ds} {n m : ByteArray} {b : List Nat} {j : Nat} (h : fnd n.data.toList st.dir = some j) : doS st 3 n m b = acted st ⟨1, n, m, j⟩ := by
  unfold doS acted actD
  simp only [h]
theorem inv_rename {st : Ds} {n m : ByteArray} {j : Nat} (h : Inv st) (hj : fnd n.data.toList st.dir = some j) (hn : n.size ≤ 60) (hm : m.size ≤ 60) : Inv (acted st ⟨1, n, m, j⟩) := by
  obtain ⟨_, e0, he0, hn0, hf0⟩ := fnd_some hj
  have e : actD ⟨1, n, m, j⟩ st.dir = putp ⟨m, j⟩ (delp n.data.toList st.dir) := by unfold actD; simp only [hj]
  refine ⟨?_, h.sure, ?_, ?_, h.riss, ?_, ?_, h.fs, h.quota, h.fuse, h.fault, h.steps⟩
  · intro x hx
    rw [show (acted st ⟨1, n, m, j⟩).dir = _ from e] at hx
    rcases mem_put_or hx with rfl | hx
    · exact ⟨by show j < st.fs.length; rw [← hf0]; exact (h.dir e0 he0).1, hm⟩
    · exact h.dir x (List.mem_filter.1 hx).1
  · intro a ha
    rcases List.mem_append.1 (show a ∈ st.acts ++ [⟨1, n, m, j⟩] from ha) with ha | ha
    · exact h.acts a ha
    · simp at ha; subst ha; exact ⟨hn, hm, by simp, fun e => by cases e⟩
  · show Ris (actD ⟨1, n, m, j⟩ st.dir)
    rw [e]; exact ris_put (ris_del h.risd _) _
  · show ((actD ⟨1, n, m, j⟩ st.dir).map En.f).Nodup
    rw [e]
    refine put_nodup (h.one.sublist ((List.filter_sublist).map En.f)) fun x hx _ hf => ?_
    have h1 := List.mem_filter.1 hx
    have := one_name h.one h1.1 he0 (hf.trans hf0.symm)
    subst this
    have h2 := h1.2
    simp [hn0] at h2
  · show (st.sure.map En.f ++ ((st.acts ++ [(⟨1, n, m, j⟩ : Ac)]).filter fun a => a.k == 0).map Ac.f).Nodup
    rw [List.filter_append]
    simpa using h.ones
theorem ownE3 (st : Ds) (n m : ByteArray) (b : List Nat) : ownE st 3 n m b = if hasp n.data.toList st.dir = false then 6 else if badn m = true then 1 else 0 := rfl
theorem bad_no {s : ByteArray} (h : badn s = false) : s.size ≤ 60 := by unfold badn at h; simp at h; exact h.2

set_option maxRecDepth 100000 in
set_option maxHeartbeats 1000000 in
theorem rename63 (D pn pm pd : Nat) (n m : ByteArray) (b : List Nat) (st : Ds) (φ : Nat → Prop) (w : World) (h : DK w φ D st) (hn : Arr w pn 9 #[.string n]) (hm : Arr w pm 9 #[.string m]) (hd : Arr w pd 23 #[.pointer (some ⟨D, 0, none⟩)]) (hs : n.size ≤ 1000000000000000) (hsm : m.size ≤ 1000000000000000) :
    Calls Try.prog 63 #[.pointer (some ⟨pd, 0, none⟩), .pointer (some ⟨pn, 0, none⟩), .pointer (some ⟨pm, 0, none⟩)] w (AskPost w (ownE st 3 n m b)) := by
  obtain ⟨hφ, bn, bs, vp, Q, hk⟩ := h
  have cn : w.cell? ⟨pn, 0, none⟩ = some (.string n) := hn.at_ rfl
  have cm : w.cell? ⟨pm, 0, none⟩ = some (.string m) := hm.at_ rfl
  have cd : w.cell? ⟨pd, 0, none⟩ = some (.pointer (some ⟨D, 0, none⟩)) := hd.at_ rfl
  have ht := there45 D bn _ _ φ _ n w hk.d rfl hk.now hs
  have hnm := fun W => named40 m W hsm
  rw [ownE3]
  clear hn hm hd hk hφ
  cases hh : hasp n.data.toList st.dir
  · rw [if_pos rfl]
    go_enter Try.func63, Try.ntmps63
    go_wp2_with fail
    refine ht.mono ?_
    rintro e w1 ⟨rfl, _, he⟩
    obtain rfl := he hh
    go_wp2_with fail
    exact ⟨rfl, AskPost.no (by decide) (Below.refl _ _)⟩
  · rw [if_neg (by decide)]
    cases hb : badn m
    · rw [if_neg (by decide)]
      rw [hb] at hnm
      go_enter Try.func63, Try.ntmps63
      go_wp2_with fail
      refine ht.mono ?_
      rintro e w1 ⟨rfl, he, _⟩
      obtain rfl := he hh
      clear he ht hb
      go_wp2_with fail
      refine (hnm _).mono ?_
      rintro e w2 ⟨rfl, rfl⟩
      go_wp2_with fail
      refine (need_yes 1 _).mono ?_
      rintro e w3 ⟨rfl, rfl⟩
      go_wp2_with fail
      go_end0
      exact AskPost.yes (Below.refl _ _)
    · rw [if_pos rfl]
      rw [hb] at hnm
      go_enter Try.func63, Try.ntmps63
      go_wp2_with fail
      refine ht.mono ?_
      rintro e w1 ⟨rfl, he, _⟩
      obtain rfl := he hh
      clear he ht hb
      go_wp2_with fail
      refine (hnm _).mono ?_
      rintro e w2 ⟨rfl, rfl⟩
      go_wp2_with fail
      refine (need_no 1 _).mono ?_
      rintro e w3 ⟨rfl, rfl⟩
      go_wp2_with fail
      exact ⟨rfl, AskPost.no (by decide) (Below.refl _ _)⟩

set_option maxRecDepth 100000 in
set_option maxHeartbeats 1000000 in
theorem moved65 (n m : ByteArray) (w : World) : Calls Try.prog 65 #[.string n, .string m] w fun e w' => ∃ p q, e = .returned (.func (.func 88) #[] #[.pointer (some ⟨p, 0, none⟩), .pointer (some ⟨q, 0, none⟩)]) ∧
    Arr w' p 9 #[.string n] ∧ Arr w' q 9 #[.string m] ∧ w.heap.size ≤ p ∧ w.heap.size ≤ q ∧ Below w.heap.size w w' := by
  have hmf := Try.make
  go_enter Try.func65, Try.ntmps65
  go_wp2_with fail
  go_ret
  have h1 := Arr.new w 9 #[.string n]
  have h2 := Arr.new (w.alloc (.cells #[.string n] 9)) 9 #[.string m]
  rw [World.size_alloc] at h2
  exact ⟨_, _, rfl, h1.alloc _, h2, Nat.le_refl _, by omega, ((Below.refl _ _).alloc (Nat.le_refl _) _).alloc (by simp) _⟩

set_option maxRecDepth 100000 in
set_option maxHeartbeats 2000000 in
theorem rename64 (D pn pm pd : Nat) (n m : ByteArray) (b : List Nat) (st : Ds) (φ : Nat → Prop) (w : World) (h : DK w φ D st) (hn : Arr w pn 9 #[.string n]) (hm : Arr w pm 9 #[.string m]) (hd : Arr w pd 23 #[.pointer (some ⟨D, 0, none⟩)]) (hpn : ¬ φ pn) (hpm : ¬ φ pm) (hpd : ¬ φ pd) (hh : hasp n.data.toList st.dir = true) (hbm : badn m = false) (hl : st.acts.length ≤ 1000000) (hdl : st.dir.length ≤ 1000000) :
    Calls Try.prog 64 #[.pointer (some ⟨pd, 0, none⟩), .pointer (some ⟨pn, 0, none⟩), .pointer (some ⟨pm, 0, none⟩)] w (DoPost w φ D (doS st 3 n m b)) := by
  obtain ⟨hφ, bn, bs, vp, Q, hk⟩ := h
  have cn : w.cell? ⟨pn, 0, none⟩ = some (.string n) := hn.at_ rfl
  have cm : w.cell? ⟨pm, 0, none⟩ = some (.string m) := hm.at_ rfl
  have cd : w.cell? ⟨pd, 0, none⟩ = some (.pointer (some ⟨D, 0, none⟩)) := hd.at_ rfl
  have hn60 := has_size hk.inv hh
  obtain ⟨j, hj⟩ : ∃ j, fnd n.data.toList st.dir = some j := by
    cases hf : fnd n.data.toList st.dir with
    | none => have := fnd_none.1 hf; rw [hh] at this; cases this
    | some j => exact ⟨j, rfl⟩
  rw [doS3 hj]
  have hac : Hid (∀ W p q, Below w.heap.size w W → Arr W p 9 #[.string n] → Arr W q 9 #[.string m] → w.heap.size ≤ p → w.heap.size ≤ q →
      Calls Try.prog 42 #[.pointer (some ⟨D, 0, none⟩), .func (.func 88) #[] #[.pointer (some ⟨p, 0, none⟩), .pointer (some ⟨q, 0, none⟩)]] W (DoPost w φ D (acted st ⟨1, n, m, j⟩))) := by
    refine Lib.hid fun W p q hb hp hq hlp hlq => ?_
    have hkw : Dk W (wid φ w W) D bn bs vp Q st := (hk.below hb (Nat.le_refl _)).mono fun _ h => .inl h
    refine (acted42 D bn bs vp _ Q st ⟨1, n, m, j⟩ (wid φ w W) W hkw (wid_lt hφ hb.size) (.inr (.inl ⟨rfl, p, q, rfl, .inr ⟨hlp, hp.lt⟩, .inr ⟨hlq, hq.lt⟩, hp, hq⟩)) hl hdl (inv_rename hk.inv hj hn60 (bad_no hbm))).mono ?_
    rintro e w' ⟨rfl, ⟨vp', h'⟩, hk'⟩
    refine ⟨rfl, ⟨wid_lt hφ (Nat.le_trans hb.size hk'.size), bn, bs, vp', Q, h'.mono (wid_trans hb.size hk'.size)⟩, ?_⟩
    refine (Kp.none_of_below (S := φ) hb).trans hk' ?_
    rintro y hy (h | h)
    · exact h
    · omega
  have hcs : Hid (∀ W, Below w.heap.size w W → W.cell? ⟨pn, 0, none⟩ = some (.string n) ∧ W.cell? ⟨pm, 0, none⟩ = some (.string m) ∧ W.cell? ⟨pd, 0, none⟩ = some (.pointer (some ⟨D, 0, none⟩))) := Lib.hid fun W hb => ⟨(hn.below hb hn.lt).at_ rfl, (hm.below hb hm.lt).at_ rfl, (hd.below hb hd.lt).at_ rfl⟩
  have hcs6 : Hid (∀ W, Kp φ w W → W.cell? ⟨pn, 0, none⟩ = some (.string n) ∧ W.cell? ⟨pm, 0, none⟩ = some (.string m) ∧ W.cell? ⟨pd, 0, none⟩ = some (.pointer (some ⟨D, 0, none⟩))) := Lib.hid fun W hb => ⟨(hn.kp hb hpn).at_ rfl, (hm.kp hb hpm).at_ rfl, (hd.kp hb hpd).at_ rfl⟩
  have HG := Lib.hid (fun W => moved65 n m W)
  clear hn hm hd hk hφ hpn hpm hpd hh hn60 hj hbm
  go_enter Try.func64, Try.ntmps64
  go_wp2_with fail
  go_region_held3 (fun w' => w'.cell? ⟨pn, 0, none⟩ = some (.string n) ∧ w'.cell? ⟨pm, 0, none⟩ = some (.string m) ∧ w'.cell? ⟨pd, 0, none⟩ = some (.pointer (some ⟨D, 0, none⟩))) (first | go_keep | exact ⟨cn, cm, cd⟩ | exact hcs.out _ hb5 | exact hcs6.out _ k6) (first | (go_at_call 65; refine (HG.out _).mono ?_; rintro r5 w5 ⟨p, q, rfl, hp5, hq5, hlp, hlq, hb5'⟩; have hb5 : Below w.heap.size w w5 := (by first | exact hb5' | exact (Below.refl _ w).drew.trans hb5'); have hlp2 : w.heap.size ≤ p := hlp; have hlq2 : w.heap.size ≤ q := hlq) | (go_at_call 42; have hac5 := hac.out w5 p q hb5 hp5 hq5 hlp2 hlq2; refine hac5.mono ?_; rintro r6 w6 ⟨rfl, h6, k6⟩))
  all_goals
    go_wp2_with fail
    go_end0
    exact ⟨rfl, h6, k6⟩
theorem Try.enters63 : Enters Try.prog 63 := enters_of Try.func63 (by kernel_rfl) rfl
theorem Try.enters64 : Enters Try.prog 64 := enters_of Try.func64 (by kernel_rfl) rfl

set_option maxRecDepth 100000 in
set_option maxHeartbeats 2000000 in
theorem rename28 (D : Nat) (n m : ByteArray) (st : Ds) (φ : Nat → Prop) (w : World) (h : DK w φ D st) (hs : n.size ≤ 1000000000000000) (hsm : m.size ≤ 1000000000000000) (hst : st.steps ≤ 1000000000) (hl : st.acts.length ≤ 1000000) (hdl : st.dir.length ≤ 1000000) :
    Calls Try.prog 28 #[.pointer (some ⟨D, 0, none⟩), .string n, .string m] w (DPost w φ D (stepE st (ownE st 3 n m [])) (stepS st (ownE st 3 n m []) (doS st 3 n m []))) := by
  have hmf := Try.make
  obtain ⟨W0, hW0⟩ : ∃ W0, W0 = ((w.alloc (.cells #[.pointer (some ⟨D, 0, none⟩)] 23)).alloc (.cells #[.string n] 9)).alloc (.cells #[.string m] 9) := ⟨_, rfl⟩
  have hb0 : Below w.heap.size w W0 := by rw [hW0]; exact (((Below.refl _ w).alloc (Nat.le_refl _) _).alloc (by simp) _).alloc (by simp; omega) _
  have hd0 : Arr W0 w.heap.size 23 #[.pointer (some ⟨D, 0, none⟩)] := by rw [hW0]; exact ((Arr.new w 23 _).alloc _).alloc _
  have hn0 : Arr W0 (w.heap.size + 1) 9 #[.string n] := by
    have := (Arr.new (w.alloc (.cells #[.pointer (some ⟨D, 0, none⟩)] 23)) 9 #[.string n]).alloc (.cells #[.string m] 9)
    rw [hW0]; rwa [World.size_alloc] at this
  have hm0 : Arr W0 (w.heap.size + 2) 9 #[.string m] := by
    have := Arr.new ((w.alloc (.cells #[.pointer (some ⟨D, 0, none⟩)] 23)).alloc (.cells #[.string n] 9)) 9 #[.string m]
    rw [hW0]; rwa [World.size_alloc, World.size_alloc] at this
  have hK := h.below hb0 (Nat.le_refl _)
  have hstep : Hid (Calls Try.prog 37 #[.pointer (some ⟨D, 0, none⟩), .func (.func 63) #[] #[.pointer (some ⟨w.heap.size, 0, none⟩), .pointer (some ⟨w.heap.size + 1, 0, none⟩), .pointer (some ⟨w.heap.size + 2, 0, none⟩)], .func (.func 64) #[] #[.pointer (some ⟨w.heap.size, 0, none⟩), .pointer (some ⟨w.heap.size + 1, 0, none⟩), .pointer (some ⟨w.heap.size + 2, 0, none⟩)]] W0
      (DPost W0 φ D (stepE st (ownE st 3 n m [])) (stepS st (ownE st 3 n m []) (doS st 3 n m [])))) := by
    refine Lib.hid (step_all D 63 64 _ _ st _ φ _ W0 hK hst Try.enters63 Try.enters64 ?_ ?_ ?_)
    · unfold doS SameC
      cases fnd n.data.toList st.dir <;> exact ⟨rfl, rfl, rfl, rfl, rfl⟩
    · intro _ W hb' _
      exact rename63 D _ _ _ n m [] st φ W (hK.below hb' (Nat.le_refl _)) (hn0.below hb' hn0.lt) (hm0.below hb' hm0.lt) (hd0.below hb' hd0.lt) hs hsm
    · intro _ hown W hb' _
      rw [ownE3] at hown
      have hh : hasp n.data.toList st.dir = true := by
        cases hh : hasp n.data.toList st.dir with
        | true => rfl
        | false => rw [if_pos hh] at hown; cases hown
      have hbm : badn m = false := by
        cases hb : badn m with
        | false => rfl
        | true => rw [if_neg (by rw [hh]; decide), if_pos hb] at hown; cases hown
      exact rename64 D _ _ _ n m [] st φ W (hK.below hb' (Nat.le_refl _)) (hn0.below hb' hn0.lt) (hm0.below hb' hm0.lt) (hd0.below hb' hd0.lt) (fun hx => by have := h.1 _ hx; omega) (fun hx => by have := h.1 _ hx; omega) (fun hx => by have := h.1 _ hx; omega) hh hbm hl hdl
  have HX := Lib.hid (And.intro hb0 h)
  clear hb0 hd0 hn0 hm0 hK h
  go_enter Try.func28, Try.ntmps28
  go_wp2_with fail
  rw [← hW0]
  refine hstep.out.mono ?_
  clear hstep
  intro e w1 hp
  have HF := Lib.hid (DPost.late HX.out.2 HX.out.1 hp)
  obtain ⟨rfl, _, _⟩ := hp
  go_wp2_with fail
  go_ret
  exact HF.out
end Go.Proofs.Ytedjfbkfaioihaa
