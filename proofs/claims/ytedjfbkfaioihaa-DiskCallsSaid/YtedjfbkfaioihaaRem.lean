/- Remove of a disk: what it answers and leaves. Conditions: at most 10^6 names and acts, 10^9 steps; a name of at most 10^15 bytes. -/
import Derived.Test.YtedjfbkfaioihaaSyn
namespace Go.Proofs.Ytedjfbkfaioihaa
open Go.RowKit Go.Shelf Go.Maps

theorem has_name {n : List UInt8} {L : List En} (h : hasp n L = true) : ∃ e ∈ L, e.nm = n := by
  unfold hasp at h
  rw [List.any_eq_true] at h
  obtain ⟨e, he, h2⟩ := h
  exact ⟨e, he, by simpa using h2⟩
theorem nm_size (e : En) : e.nm.length = e.n.size := by unfold En.nm; rw [Array.length_toList]; rfl
theorem has_size {st : Ds} (hi : Inv st) {n : ByteArray} (h : hasp n.data.toList st.dir = true) : n.size ≤ 60 := by
  obtain ⟨e, he, hn⟩ := has_name h
  have h1 := (hi.dir e he).2
  have h2 := nm_size e
  rw [hn] at h2
  have h3 : n.data.toList.length = n.size := by rw [Array.length_toList]; rfl
  omega
theorem inv_remove {st : Ds} {n m : ByteArray} {b : List Nat} (h : Inv st) (hn : n.size ≤ 60) : Inv (doS st 4 n m b) := by
  refine ⟨fun e he => h.dir e (List.mem_filter.1 he).1, h.sure, ?_, ris_del h.risd _, h.riss, h.one.sublist ((List.filter_sublist).map En.f), ?_, h.fs, h.quota, h.fuse, h.fault, h.steps⟩
  · intro a ha
    rcases List.mem_append.1 (show a ∈ st.acts ++ [⟨2, n, noname, 0⟩] from ha) with ha | ha
    · exact h.acts a ha
    · simp at ha; subst ha; exact ⟨hn, by show noname.size ≤ 60; decide, by simp, fun e => by cases e⟩
  · show (st.sure.map En.f ++ ((st.acts ++ [(⟨2, n, noname, 0⟩ : Ac)]).filter fun a => a.k == 0).map Ac.f).Nodup
    rw [List.filter_append]
    simpa using h.ones

set_option maxRecDepth 100000 in
set_option maxHeartbeats 1000000 in
theorem remove53 (D pn pd : Nat) (n : ByteArray) (st : Ds) (φ : Nat → Prop) (w : World) (h : DK w φ D st) (hn : Arr w pn 9 #[.string n]) (hd : Arr w pd 23 #[.pointer (some ⟨D, 0, none⟩)]) (hs : n.size ≤ 1000000000000000) :
    Calls Try.prog 53 #[.pointer (some ⟨pd, 0, none⟩), .pointer (some ⟨pn, 0, none⟩)] w (AskPost w (own6 n st.dir)) := by
  obtain ⟨hφ, bn, bs, vp, Q, hk⟩ := h
  have cn : w.cell? ⟨pn, 0, none⟩ = some (.string n) := hn.at_ rfl
  have cd : w.cell? ⟨pd, 0, none⟩ = some (.pointer (some ⟨D, 0, none⟩)) := hd.at_ rfl
  have ht := there45 D bn _ _ φ _ n w hk.d rfl hk.now hs
  clear hn hd hk hφ
  cases hh : hasp n.data.toList st.dir
  · rw [own6_no hh]
    go_enter Try.func53, Try.ntmps53
    go_wp2_with fail
    refine ht.mono ?_
    rintro e w1 ⟨rfl, _, he⟩
    obtain rfl := he hh
    go_wp2_with fail
    exact ⟨rfl, AskPost.no (by decide) (Below.refl _ _)⟩
  · rw [own6_yes hh]
    go_enter Try.func53, Try.ntmps53
    go_wp2_with fail
    refine ht.mono ?_
    rintro e w1 ⟨rfl, he, _⟩
    obtain rfl := he hh
    go_wp2_with fail
    go_end0
    exact AskPost.yes (Below.refl _ _)


set_option maxRecDepth 100000 in
set_option maxHeartbeats 1000000 in
theorem taken55 (n : ByteArray) (w : World) : Calls Try.prog 55 #[.string n] w fun e w' => ∃ p, e = .returned (.func (.func 83) #[] #[.pointer (some ⟨p, 0, none⟩)]) ∧ Arr w' p 9 #[.string n] ∧ w.heap.size ≤ p ∧ Below w.heap.size w w' := by
  have hmf := Try.make
  go_enter Try.func55, Try.ntmps55
  go_wp2_with fail
  go_ret
  exact ⟨_, rfl, Arr.new w 9 _, Nat.le_refl _, (Below.refl _ _).alloc (Nat.le_refl _) _⟩

set_option maxRecDepth 100000 in
set_option maxHeartbeats 2000000 in
theorem remove54 (D pn pd : Nat) (n m : ByteArray) (b : List Nat) (st : Ds) (φ : Nat → Prop) (w : World) (h : DK w φ D st) (hn : Arr w pn 9 #[.string n]) (hd : Arr w pd 23 #[.pointer (some ⟨D, 0, none⟩)]) (_ : n.size ≤ 1000000000000000) (hpn : ¬ φ pn) (hpd : ¬ φ pd) (hh : hasp n.data.toList st.dir = true) (hl : st.acts.length ≤ 1000000) (hdl : st.dir.length ≤ 1000000) :
    Calls Try.prog 54 #[.pointer (some ⟨pd, 0, none⟩), .pointer (some ⟨pn, 0, none⟩)] w (DoPost w φ D (doS st 4 n m b)) := by
  obtain ⟨hφ, bn, bs, vp, Q, hk⟩ := h
  have cn : w.cell? ⟨pn, 0, none⟩ = some (.string n) := hn.at_ rfl
  have cd : w.cell? ⟨pd, 0, none⟩ = some (.pointer (some ⟨D, 0, none⟩)) := hd.at_ rfl
  have hn60 := has_size hk.inv hh
  have hac : Hid (∀ W p, Below w.heap.size w W → Arr W p 9 #[.string n] → w.heap.size ≤ p →
      Calls Try.prog 42 #[.pointer (some ⟨D, 0, none⟩), .func (.func 83) #[] #[.pointer (some ⟨p, 0, none⟩)]] W (DoPost w φ D (doS st 4 n m b))) := by
    refine Lib.hid fun W p hb hp hlp => ?_
    have hkw : Dk W (wid φ w W) D bn bs vp Q st := (hk.below hb (Nat.le_refl _)).mono fun _ h => .inl h
    refine (acted42 D bn bs vp _ Q st ⟨2, n, noname, 0⟩ (wid φ w W) W hkw (wid_lt hφ hb.size) (.inr (.inr ⟨rfl, p, rfl, .inr ⟨hlp, hp.lt⟩, hp⟩)) hl hdl (inv_remove (m := m) (b := b) hk.inv hn60)).mono ?_
    rintro e w' ⟨rfl, ⟨vp', h'⟩, hk'⟩
    refine ⟨rfl, ⟨wid_lt hφ (Nat.le_trans hb.size hk'.size), bn, bs, vp', Q, h'.mono (wid_trans hb.size hk'.size)⟩, ?_⟩
    refine (Kp.none_of_below (S := φ) hb).trans hk' ?_
    rintro y hy (h | h)
    · exact h
    · omega
  have hcs : Hid (∀ W, Below w.heap.size w W → W.cell? ⟨pn, 0, none⟩ = some (.string n) ∧ W.cell? ⟨pd, 0, none⟩ = some (.pointer (some ⟨D, 0, none⟩))) := Lib.hid fun W hb => ⟨(hn.below hb hn.lt).at_ rfl, (hd.below hb hd.lt).at_ rfl⟩
  have hcs6 : Hid (∀ W, Kp φ w W → W.cell? ⟨pn, 0, none⟩ = some (.string n) ∧ W.cell? ⟨pd, 0, none⟩ = some (.pointer (some ⟨D, 0, none⟩))) := Lib.hid fun W hb => ⟨(hn.kp hb hpn).at_ rfl, (hd.kp hb hpd).at_ rfl⟩
  have HG := Lib.hid (fun W => taken55 n W)
  clear hn hd hk hφ hpn hpd hh hn60
  go_enter Try.func54, Try.ntmps54
  go_wp2_with fail
  go_region_held3 (fun w' => w'.cell? ⟨pn, 0, none⟩ = some (.string n) ∧ w'.cell? ⟨pd, 0, none⟩ = some (.pointer (some ⟨D, 0, none⟩))) (first | go_keep | exact ⟨cn, cd⟩ | exact hcs.out _ hb5 | exact hcs6.out _ k6) (first | (go_at_call 55; refine (HG.out _).mono ?_; rintro r5 w5 ⟨p, rfl, hp5, hlp, hb5'⟩; have hb5 : Below w.heap.size w w5 := (by first | exact hb5' | exact (Below.refl _ w).drew.trans hb5'); have hlp2 : w.heap.size ≤ p := hlp) | (go_at_call 42; have hac5 := hac.out w5 p hb5 hp5 hlp2; refine hac5.mono ?_; rintro r6 w6 ⟨rfl, h6, k6⟩))
  all_goals
    go_wp2_with fail
    go_end0
    exact ⟨rfl, h6, k6⟩
theorem Try.enters53 : Enters Try.prog 53 := enters_of Try.func53 (by kernel_rfl) rfl
theorem Try.enters54 : Enters Try.prog 54 := enters_of Try.func54 (by kernel_rfl) rfl

set_option maxRecDepth 100000 in
set_option maxHeartbeats 2000000 in
theorem remove21 (D : Nat) (n : ByteArray) (st : Ds) (φ : Nat → Prop) (w : World) (h : DK w φ D st) (hs : n.size ≤ 1000000000000000) (hst : st.steps ≤ 1000000000) (hl : st.acts.length ≤ 1000000) (hdl : st.dir.length ≤ 1000000) :
    Calls Try.prog 21 #[.pointer (some ⟨D, 0, none⟩), .string n] w (DPost w φ D (stepE st (ownE st 4 n noname [])) (stepS st (ownE st 4 n noname []) (doS st 4 n noname []))) := by
  have hmf := Try.make
  have hb0 : Below w.heap.size w ((w.alloc (.cells #[.pointer (some ⟨D, 0, none⟩)] 23)).alloc (.cells #[.string n] 9)) := ((Below.refl _ w).alloc (Nat.le_refl _) _).alloc (by simp) _
  have hd0 : Arr ((w.alloc (.cells #[.pointer (some ⟨D, 0, none⟩)] 23)).alloc (.cells #[.string n] 9)) w.heap.size 23 #[.pointer (some ⟨D, 0, none⟩)] := (Arr.new w 23 _).alloc _
  have hn0 : Arr ((w.alloc (.cells #[.pointer (some ⟨D, 0, none⟩)] 23)).alloc (.cells #[.string n] 9)) (w.heap.size + 1) 9 #[.string n] := by
    have := Arr.new (w.alloc (.cells #[.pointer (some ⟨D, 0, none⟩)] 23)) 9 #[.string n]
    rwa [World.size_alloc] at this
  have hK := h.below hb0 (Nat.le_refl _)
  obtain ⟨W0, hW0⟩ : ∃ W0, W0 = (w.alloc (.cells #[.pointer (some ⟨D, 0, none⟩)] 23)).alloc (.cells #[.string n] 9) := ⟨_, rfl⟩
  rw [← hW0] at hb0 hd0 hn0 hK
  have hstep : Hid (Calls Try.prog 37 #[.pointer (some ⟨D, 0, none⟩), .func (.func 53) #[] #[.pointer (some ⟨w.heap.size, 0, none⟩), .pointer (some ⟨w.heap.size + 1, 0, none⟩)], .func (.func 54) #[] #[.pointer (some ⟨w.heap.size, 0, none⟩), .pointer (some ⟨w.heap.size + 1, 0, none⟩)]] W0
      (DPost W0 φ D (stepE st (ownE st 4 n noname [])) (stepS st (ownE st 4 n noname []) (doS st 4 n noname [])))) := by
    rw [own_own6 st 4 n noname [] (.inr rfl)]
    refine Lib.hid (step_all D 53 54 _ _ st _ φ _ W0 hK hst Try.enters53 Try.enters54 ?_ ?_ ?_)
    · exact ⟨rfl, rfl, rfl, rfl, rfl⟩
    · intro _ W hb' _
      exact remove53 D _ _ n st φ W (hK.below hb' (Nat.le_refl _)) (hn0.below hb' hn0.lt) (hd0.below hb' hd0.lt) hs
    · intro _ hown W hb' _
      have hh : hasp n.data.toList st.dir = true := by
        cases hh : hasp n.data.toList st.dir with
        | true => rfl
        | false => rw [own6_no hh] at hown; cases hown
      exact remove54 D _ _ n noname [] st φ W (hK.below hb' (Nat.le_refl _)) (hn0.below hb' hn0.lt) (hd0.below hb' hd0.lt) hs (fun hx => by have := h.1 _ hx; omega) (fun hx => by have := h.1 _ hx; omega) hh hl hdl
  have HX := Lib.hid (And.intro hb0 h)
  clear hb0 hd0 hn0 hK h
  go_enter Try.func21, Try.ntmps21
  go_wp2_with fail
  rw [← hW0]
  refine hstep.out.mono ?_
  clear hstep
  intro e w1 hp
  have HF := Lib.hid (DPost.late HX.out.2 HX.out.1 hp)
  obtain ⟨rfl, _, _⟩ := hp
  go_wp2_with fail
  go_ret
  exact HF.out
end Go.Proofs.Ytedjfbkfaioihaa
