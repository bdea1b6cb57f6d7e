/- Create of a disk: what it answers and leaves. Conditions: at most 10^6 names and acts, 10^9 steps; a name of at most 10^15 bytes. -/
import Derived.Test.YtedjfbkfaioihaaActed
import Derived.BigQuiet
import Derived.Deep.RegionHeld3
namespace Go.Proofs.Ytedjfbkfaioihaa
open Go.RowKit Go.Shelf Go.Maps

theorem ownE0 (st : Ds) (n m : ByteArray) (b : List Nat) : ownE st 0 n m b = if badn n = true then 1 else if hasp n.data.toList st.dir = true then 7 else 0 := rfl
theorem below_drewN {B : Nat} {w w' : World} (h : Below B w w') (n : Nat) : Below B w (w'.drewN n) := ⟨h.os, h.tape, h.output, h.size, h.block⟩
theorem insp_perm (p : En) : ∀ L : List En, (insp p L).Perm (p :: L)
  | [] => List.Perm.refl _
  | a :: r => by
    unfold insp
    split
    · exact List.Perm.refl _
    · exact ((insp_perm p r).cons a).trans (List.Perm.swap p a r)
theorem put_nodup {p : En} {L : List En} (h : (L.map En.f).Nodup) (hp : ∀ e ∈ L, e.nm ≠ p.nm → e.f ≠ p.f) : ((putp p L).map En.f).Nodup := by
  have h1 := (insp_perm p (delp p.nm L)).map En.f
  unfold putp
  rw [h1.nodup_iff, List.map_cons, List.nodup_cons]
  refine ⟨?_, ?_⟩
  · intro hm
    obtain ⟨e, he, hf⟩ := List.mem_map.1 hm
    unfold delp at he
    have := List.mem_filter.1 he
    exact hp e this.1 (by simpa using this.2) hf
  · exact h.sublist ((List.filter_sublist).map En.f)
theorem mem_put_or {p q : En} {L : List En} (h : q ∈ putp p L) : q = p ∨ q ∈ L := by
  rcases mem_put.1 h with h | h
  · exact .inl h
  · exact .inr h.1
theorem inv_create {st : Ds} {n m : ByteArray} {b : List Nat} (h : Inv st) (hn : n.size ≤ 60) : Inv (doS st 0 n m b) := by
  have hl : (st.fs ++ [(⟨[], 0⟩ : Fl)]).length = st.fs.length + 1 := by simp
  refine ⟨?_, ?_, ?_, ris_put h.risd _, h.riss, ?_, ?_, ?_, h.quota, h.fuse, h.fault, h.steps⟩
  · intro e he
    show e.f < (st.fs ++ [(⟨[], 0⟩ : Fl)]).length ∧ _
    rw [hl]
    rcases mem_put_or (show e ∈ putp ⟨n, st.fs.length⟩ st.dir from he) with rfl | he
    · exact ⟨by simp, hn⟩
    · have := h.dir e he; exact ⟨by omega, this.2⟩
  · intro e he
    show e.f < (st.fs ++ [(⟨[], 0⟩ : Fl)]).length ∧ _
    rw [hl]
    have := h.sure e he; exact ⟨by omega, this.2⟩
  · intro a ha
    show _ ∧ _ ∧ _ ∧ (_ → a.f < (st.fs ++ [(⟨[], 0⟩ : Fl)]).length)
    rw [hl]
    rcases List.mem_append.1 (show a ∈ st.acts ++ [⟨0, n, noname, st.fs.length⟩] from ha) with ha | ha
    · have := h.acts a ha; exact ⟨this.1, this.2.1, this.2.2.1, fun e => by have := this.2.2.2 e; omega⟩
    · simp at ha; subst ha; exact ⟨hn, by show noname.size ≤ 60; decide, by simp, fun _ => by simp⟩
  · refine put_nodup h.one fun e he _ hf => ?_
    have := (h.dir e he).1
    have hf' : e.f = st.fs.length := hf
    omega
  · show (st.sure.map En.f ++ ((st.acts ++ [(⟨0, n, noname, st.fs.length⟩ : Ac)]).filter fun a => a.k == 0).map Ac.f).Nodup
    rw [List.filter_append, List.map_append, ← List.append_assoc]
    refine List.nodup_append.2 ⟨h.ones, by simp, ?_⟩
    intro x hx y hy e
    simp at hy
    subst e; subst hy
    rcases List.mem_append.1 hx with hx | hx
    · obtain ⟨e, he, hf⟩ := List.mem_map.1 hx
      have := (h.sure e he).1
      omega
    · obtain ⟨a, ha, hf⟩ := List.mem_map.1 hx
      have h1 := List.mem_filter.1 ha
      have := (h.acts a h1.1).2.2.2 (by simpa using h1.2)
      omega
  · intro x hx
    rcases List.mem_append.1 (show x ∈ st.fs ++ [(⟨[], 0⟩ : Fl)] from hx) with hx | hx
    · exact h.fs x hx
    · simp at hx; subst hx; simp

theorem Fq_old {Q : List (Nat × Value)} {q : Nat × Value} {j : Nat} (h : j < Q.length) : Fq (Q ++ [q]) j = Fq Q j := by
  unfold Fq; rw [List.getD_eq_getElem?_getD, List.getD_eq_getElem?_getD, List.getElem?_append_left h]
theorem Fq_new {Q : List (Nat × Value)} {q : Nat × Value} : Fq (Q ++ [q]) Q.length = q.1 := by
  unfold Fq; rw [List.getD_eq_getElem?_getD, List.getElem?_append_right (Nat.le_refl _)]; simp
theorem dat_congr {F F' : Nat → Nat} {L : List En} (h : ∀ e ∈ L, F' e.f = F e.f) : dat F' L = dat F L := by
  unfold dat
  congr 1
  refine List.map_congr_left fun e he => ?_
  rw [h e he]
theorem Mp.congr {w : World} {φ : Nat → Prop} {b : Nat} {F F' : Nat → Nat} {L : List En} (h : Mp w φ b F L) (hf : ∀ e ∈ L, F' e.f = F e.f) : Mp w φ b F' L := ⟨h.p, by rw [dat_congr hf]; exact h.m⟩
theorem AAt.congr {w : World} {φ : Nat → Prop} {F F' : Nat → Nat} {v : Value} {a : Ac} (h : AAt w φ F v a) (hf : a.k = 0 → F' a.f = F a.f) : AAt w φ F' v a := by
  rcases h with ⟨h0, p, q, h1, h2, h3, h4, h5⟩ | h | h
  · exact .inl ⟨h0, p, q, h1, h2, h3, by rw [hf h0]; exact h4, h5⟩
  · exact .inr (.inl h)
  · exact .inr (.inr h)
/-- A new file, which no name has. -/
theorem Dk.newfile {w w' : World} {φ : Nat → Prop} {D bn bs x : Nat} {vp : Value} {Q : List (Nat × Value)} {st : Ds} (h : Dk w φ D bn bs vp Q st) (hφ : ∀ x, φ x → x < w.heap.size) (hb : Below w.heap.size w w') (hx : Arr w' x 75 #[.slice none 0 0, .int .i64 0]) (hlo : w.heap.size ≤ x) :
    Dk w' (wid φ w w') D bn bs vp (Q ++ [(x, .slice none 0 0)]) { st with fs := st.fs ++ [⟨[], 0⟩] } := by
  have hk : ∀ x, φ x → x < w.heap.size → w'.heap[x]? = w.heap[x]? := fun x _ hl => hb.block x hl
  have hQ := h.fs.len
  have h1 := h.keep hk
  have hw : ∀ x, φ x → wid φ w w' x := fun x hx => .inl hx
  have hxl := hx.lt
  refine ⟨h1.d, hw _ h1.pd, h1.ne, ?_, ?_, ?_, ?_, ?_⟩
  · exact (h1.now.mono hw).congr fun e he => Fq_old (by rw [hQ]; exact (h.inv.dir e he).1)
  · exact (h1.sure.mono hw).congr fun e he => Fq_old (by rw [hQ]; exact (h.inv.sure e he).1)
  · obtain ⟨cs, r1, r2, r3⟩ := h1.pend
    refine ⟨cs, r1, fun y hy => hw y (r2 y hy), fun i v a hv ha => ((r3 i v a hv ha).mono hw).congr fun h0 => Fq_old ?_⟩
    rw [hQ]
    exact (h.inv.acts a (List.mem_of_getElem? ha)).2.2.2 h0
  · refine ⟨by simp [hQ], ?_, ?_⟩
    · intro j q y hq hy
      have hy' : (st.fs ++ [(⟨[], 0⟩ : Fl)])[j]? = some y := hy
      rcases Nat.lt_trichotomy j Q.length with hj | hj | hj
      · rw [List.getElem?_append_left hj] at hq
        rw [List.getElem?_append_left (by omega)] at hy'
        exact (h1.fs.at_ j q y hq hy').mono hw
      · subst hj
        rw [List.getElem?_append_right (Nat.le_refl _)] at hq
        rw [hQ, List.getElem?_append_right (Nat.le_refl _)] at hy'
        simp at hq hy'
        subst hq; subst hy'
        exact ⟨hx, .inr ⟨hlo, hxl⟩, Bts.nil_ _ _⟩
      · rw [List.getElem?_append_right (by omega)] at hq
        have := (List.getElem?_eq_some_iff.1 hq).1
        simp at this
        omega
    · intro i j q r hq hr hij
      have old : ∀ {i : Nat} {q : Nat × Value}, Q[i]? = some q → q.1 < w.heap.size ∧ ∀ g, q.2.ownBlock = some g → g < w.heap.size := fun {i q} hq => by
        have hi := (List.getElem?_eq_some_iff.1 hq).1
        have := h.fs.at_ i q st.fs[i] hq (by rw [List.getElem?_eq_getElem (by omega)])
        exact ⟨hφ _ this.p, fun g hg => hφ _ (this.b.own g hg).1⟩
      have pos : ∀ {i : Nat} {q : Nat × Value}, (Q ++ [(x, Value.slice none 0 0)])[i]? = some q → (i < Q.length ∧ Q[i]? = some q) ∨ (i = Q.length ∧ q = (x, .slice none 0 0)) := fun {i q} hq => by
        rcases Nat.lt_trichotomy i Q.length with hi | hi | hi
        · rw [List.getElem?_append_left hi] at hq; exact .inl ⟨hi, hq⟩
        · subst hi
          rw [List.getElem?_append_right (Nat.le_refl _)] at hq
          simp at hq
          exact .inr ⟨rfl, hq.symm⟩
        · rw [List.getElem?_append_right (by omega)] at hq
          have := (List.getElem?_eq_some_iff.1 hq).1
          simp at this; omega
      rcases pos hq with ⟨hi, hq⟩ | ⟨hi, rfl⟩ <;> rcases pos hr with ⟨hj, hr⟩ | ⟨hj, rfl⟩
      · exact h.fs.ne i j q r hq hr hij
      · have := old hq
        exact ⟨by show q.1 ≠ x; omega, fun g _ e => by cases e⟩
      · have := old hr
        exact ⟨by show x ≠ r.1; omega, fun g e => by cases e⟩
      · omega
  · refine ⟨fun e he => ?_, fun e he => ?_, fun a ha => ?_, h.inv.risd, h.inv.riss, h.inv.one, h.inv.ones, fun y hy => ?_, h.inv.quota, h.inv.fuse, h.inv.fault, h.inv.steps⟩
    · have := h.inv.dir e he; exact ⟨by show e.f < (st.fs ++ [_]).length; simp; omega, this.2⟩
    · have := h.inv.sure e he; exact ⟨by show e.f < (st.fs ++ [_]).length; simp; omega, this.2⟩
    · have := h.inv.acts a ha; exact ⟨this.1, this.2.1, this.2.2.1, fun e => by have := this.2.2.2 e; show a.f < (st.fs ++ [_]).length; simp; omega⟩
    · rcases List.mem_append.1 (show y ∈ st.fs ++ [(⟨[], 0⟩ : Fl)] from hy) with hy | hy
      · exact h.inv.fs y hy
      · simp at hy; subst hy; simp

set_option maxRecDepth 100000 in
set_option maxHeartbeats 1000000 in
theorem given43 (n : ByteArray) (x : Nat) (w : World) : Calls Try.prog 43 #[.string n, .pointer (some ⟨x, 0, none⟩)] w fun e w' => ∃ p q, e = .returned (.func (.func 82) #[] #[.pointer (some ⟨p, 0, none⟩), .pointer (some ⟨q, 0, none⟩)]) ∧
    Arr w' p 68 #[plv x] ∧ Arr w' q 9 #[.string n] ∧ w.heap.size ≤ p ∧ w.heap.size ≤ q ∧ Below w.heap.size w w' := by
  have hmf := Try.make
  go_enter Try.func43, Try.ntmps43
  go_wp2_with fail
  go_ret
  have h1 := Arr.new w 9 #[.string n]
  have h2 := Arr.new (w.alloc (.cells #[.string n] 9)) 68 #[plv x]
  rw [World.size_alloc] at h2
  exact ⟨_, _, rfl, h2, h1.alloc _, by omega, Nat.le_refl _, ((Below.refl _ _).alloc (Nat.le_refl _) _).alloc (by simp) _⟩

set_option maxRecDepth 100000 in
set_option maxHeartbeats 2000000 in
theorem create38 (D pn pd : Nat) (n m : ByteArray) (b : List Nat) (st : Ds) (φ : Nat → Prop) (w : World) (h : DK w φ D st) (hn : Arr w pn 9 #[.string n]) (hd : Arr w pd 23 #[.pointer (some ⟨D, 0, none⟩)]) (hs : n.size ≤ 1000000000000000) :
    Calls Try.prog 38 #[.pointer (some ⟨pn, 0, none⟩), .pointer (some ⟨pd, 0, none⟩)] w (AskPost w (ownE st 0 n m b)) := by
  obtain ⟨hφ, bn, bs, vp, Q, hk⟩ := h
  have cn : w.cell? ⟨pn, 0, none⟩ = some (.string n) := hn.at_ rfl
  have cd : w.cell? ⟨pd, 0, none⟩ = some (.pointer (some ⟨D, 0, none⟩)) := hd.at_ rfl
  have c1 : w.cell? ⟨D, 1, none⟩ = some (.map (some bn)) := hk.d.at_ rfl
  have hnm := fun W => named40 n W hs
  have hlk := look_ok2 hk.now.m n (by unfold maxLen; omega)
  obtain ⟨v, hv⟩ : ∃ v, v = lkv (Fq Q) n.data.toList st.dir := ⟨_, rfl⟩
  obtain ⟨bo, hbo⟩ : ∃ bo, bo = hasp n.data.toList st.dir := ⟨_, rfl⟩
  have hlk' : ∀ W : World, W.heap = w.heap → (Instr.lookup 61 (.map (some bn)) (.string n) true).run Try.prog W = .ok (.tuple #[v, .bool bo]) W := by
    intro W hW
    rw [hv, hbo]
    exact look_ok2 (own_heap hk.now.m (by rw [hW])) n (by unfold maxLen; omega)
  have hl0 := hlk' w rfl
  have hl1 := hlk' w.drew rfl
  have HBO := Lib.hid hbo
  clear hlk hv hbo hlk' hn hd hk hφ
  cases hb : badn n
  · have hnm' := fun W => (hnm W)
    rw [hb] at hnm'
    cases bo
    · have e : ownE st 0 n m b = 0 := by rw [ownE0]; rw [if_neg (by rw [hb]; decide), if_neg (by rw [← HBO.out]; decide)]
      rw [e]
      clear hb hnm e
      go_enter Try.func38, Try.ntmps38
      go_wp2_with fail
      refine (hnm' _).mono ?_
      rintro e w1 ⟨rfl, rfl⟩
      go_wp2_with fail
      refine (need_yes 1 _).mono ?_
      rintro e w2 ⟨rfl, rfl⟩
      go_wp2_with fail
      go_region_held3 (fun w' => w'.cell? ⟨pn, 0, none⟩ = some (.string n) ∧ w'.cell? ⟨pd, 0, none⟩ = some (.pointer (some ⟨D, 0, none⟩)) ∧ w'.cell? ⟨D, 1, none⟩ = some (.map (some bn)) ∧ (Instr.lookup 61 (.map (some bn)) (.string n) true).run Try.prog w' = .ok (.tuple #[v, .bool false]) w') (exact ⟨cn, cd, c1, hl1⟩) (fail)
      go_wp2_with fail
      refine (need_yes 7 _).mono ?_
      rintro e w3 ⟨rfl, rfl⟩
      go_wp2_with fail
      go_end0
      exact AskPost.yes (Below.refl _ _).drew
    · have e : ownE st 0 n m b = 7 := by rw [ownE0]; rw [if_neg (by rw [hb]; decide), if_pos (by rw [← HBO.out])]
      rw [e]
      clear hb hnm e
      go_enter Try.func38, Try.ntmps38
      go_wp2_with fail
      refine (hnm' _).mono ?_
      rintro e w1 ⟨rfl, rfl⟩
      go_wp2_with fail
      refine (need_yes 1 _).mono ?_
      rintro e w2 ⟨rfl, rfl⟩
      go_wp2_with fail
      go_region_held3 (fun w' => w'.cell? ⟨pn, 0, none⟩ = some (.string n) ∧ w'.cell? ⟨pd, 0, none⟩ = some (.pointer (some ⟨D, 0, none⟩)) ∧ w'.cell? ⟨D, 1, none⟩ = some (.map (some bn)) ∧ (Instr.lookup 61 (.map (some bn)) (.string n) true).run Try.prog w' = .ok (.tuple #[v, .bool true]) w') (exact ⟨cn, cd, c1, hl1⟩) (fail)
      go_wp2_with fail
      refine (need_no 7 _).mono ?_
      rintro e w3 ⟨rfl, rfl⟩
      go_wp2_with fail
      exact ⟨rfl, AskPost.no (by decide) (Below.refl _ _).drew⟩
  · have hnm' := fun W => (hnm W)
    rw [hb] at hnm'
    have e : ownE st 0 n m b = 1 := by rw [ownE0]; rw [if_pos (by rw [hb])]
    rw [e]
    clear hb hnm e
    go_enter Try.func38, Try.ntmps38
    go_wp2_with fail
    refine (hnm' _).mono ?_
    rintro e w1 ⟨rfl, rfl⟩
    go_wp2_with fail
    refine (need_no 1 _).mono ?_
    rintro e w2 ⟨rfl, rfl⟩
    go_wp2_with fail
    exact ⟨rfl, AskPost.no (by decide) (Below.refl _ _)⟩

theorem Try.enters38 : Enters Try.prog 38 := enters_of Try.func38 (by kernel_rfl) rfl
theorem Try.enters41 : Enters Try.prog 41 := enters_of Try.func41 (by kernel_rfl) rfl
theorem hid_true {a b : Prop} (h : a) (k : b) : Hid (a ∧ b) := Lib.hid ⟨h, k⟩

set_option maxRecDepth 100000 in
set_option maxHeartbeats 2000000 in
theorem create41 (D pn pd : Nat) (n m : ByteArray) (b : List Nat) (st : Ds) (φ : Nat → Prop) (w : World) (h : DK w φ D st) (hn : Arr w pn 9 #[.string n]) (hd : Arr w pd 23 #[.pointer (some ⟨D, 0, none⟩)]) (hpn : ¬ φ pn) (hpd : ¬ φ pd) (hs : n.size ≤ 60) (hl : st.acts.length ≤ 1000000) (hdl : st.dir.length ≤ 1000000) :
    Calls Try.prog 41 #[.pointer (some ⟨pd, 0, none⟩), .pointer (some ⟨pn, 0, none⟩)] w (DoPost w φ D (doS st 0 n m b)) := by
  obtain ⟨hφ, bn, bs, vp, Q, hk⟩ := h
  have cn : w.cell? ⟨pn, 0, none⟩ = some (.string n) := hn.at_ rfl
  have cd : w.cell? ⟨pd, 0, none⟩ = some (.pointer (some ⟨D, 0, none⟩)) := hd.at_ rfl
  have hac : Hid (∀ W x p q, Below w.heap.size w W → Arr W x 75 #[.slice none 0 0, .int .i64 0] → w.heap.size ≤ x → Arr W p 68 #[plv x] → Arr W q 9 #[.string n] → w.heap.size ≤ p → w.heap.size ≤ q →
      Calls Try.prog 42 #[.pointer (some ⟨D, 0, none⟩), .func (.func 82) #[] #[.pointer (some ⟨p, 0, none⟩), .pointer (some ⟨q, 0, none⟩)]] W (DoPost w φ D (doS st 0 n m b))) := by
    refine Lib.hid fun W x p q hb hx hlx hp hq hlp hlq => ?_
    have hnew := hk.newfile hφ hb hx hlx
    have hQ := hk.fs.len
    refine (acted42 D bn bs vp _ _ { st with fs := st.fs ++ [⟨[], 0⟩] } ⟨0, n, noname, st.fs.length⟩ (wid φ w W) W hnew (wid_lt hφ hb.size) ?_ hl hdl (inv_create (m := m) (b := b) hk.inv hs)).mono ?_
    · refine .inl ⟨rfl, p, q, rfl, .inr ⟨hlp, hp.lt⟩, .inr ⟨hlq, hq.lt⟩, ?_, hq⟩
      show Arr W p 68 #[plv (Fq _ st.fs.length)]
      rw [← hQ, Fq_new]
      exact hp
    · rintro e w' ⟨rfl, ⟨vp', h'⟩, hk'⟩
      refine ⟨rfl, ⟨wid_lt hφ (Nat.le_trans hb.size hk'.size), bn, bs, vp', _, h'.mono (wid_trans hb.size hk'.size)⟩, ?_⟩
      refine (Kp.none_of_below (S := φ) hb).trans hk' ?_
      rintro y hy (h | h)
      · exact h
      · omega
  have hcs : Hid (∀ W, Below w.heap.size w W → W.cell? ⟨pn, 0, none⟩ = some (.string n) ∧ W.cell? ⟨pd, 0, none⟩ = some (.pointer (some ⟨D, 0, none⟩))) := Lib.hid fun W hb => ⟨(hn.below hb hn.lt).at_ rfl, (hd.below hb hd.lt).at_ rfl⟩
  have hcs6 : Hid (∀ W, Kp φ w W → W.cell? ⟨pn, 0, none⟩ = some (.string n) ∧ W.cell? ⟨pd, 0, none⟩ = some (.pointer (some ⟨D, 0, none⟩))) := Lib.hid fun W hb => ⟨(hn.kp hb hpn).at_ rfl, (hd.kp hb hpd).at_ rfl⟩
  have nX : ∀ X : Obj, (w.alloc X).cell? ⟨pn, 0, none⟩ = some (.string n) := fun X => (World.cell?_alloc_lt w X ⟨pn, 0, none⟩ hn.lt).trans cn
  have dX : ∀ X : Obj, (w.alloc X).cell? ⟨pd, 0, none⟩ = some (.pointer (some ⟨D, 0, none⟩)) := fun X => (World.cell?_alloc_lt w X ⟨pd, 0, none⟩ hd.lt).trans cd
  have hg := fun x W => given43 n x W
  have HG := Lib.hid hg
  clear hn hd hk hφ hg hpn hpd
  go_enter Try.func41, Try.ntmps41
  go_wp2_with fail
  go_region_held3 (fun w' => w'.cell? ⟨pn, 0, none⟩ = some (.string n) ∧ w'.cell? ⟨pd, 0, none⟩ = some (.pointer (some ⟨D, 0, none⟩))) (first | go_keep | exact ⟨cn, cd⟩ | exact ⟨nX _, dX _⟩ | exact hcs.out _ hb5 | exact hcs6.out _ k6) (first | (go_at_call 43; refine (HG.out _ _).mono ?_; rintro r5 w5 ⟨p, q, rfl, hp5, hq5, hlp, hlq, hb5'⟩; have hb5 : Below w.heap.size w w5 := (by first | exact ((Below.refl _ w).alloc (Nat.le_refl _) _).trans (hb5'.mono (by simp)) | exact (((Below.refl _ w).alloc (Nat.le_refl _) _).drew).trans (hb5'.mono (by simp))); have hx5 : Arr w5 w.heap.size 75 #[.slice none 0 0, .int .i64 0] := (by first | exact (Arr.new w 75 _).below hb5' (by simp) | exact ((Arr.new w 75 _).drew).below hb5' (by simp)); have hlp2 : w.heap.size ≤ p := Nat.le_trans (by simp) hlp; have hlq2 : w.heap.size ≤ q := Nat.le_trans (by simp) hlq) | (go_at_call 42; have hac5 := hac.out w5 w.heap.size p q hb5 hx5 (Nat.le_refl _) hp5 hq5 hlp2 hlq2; refine hac5.mono ?_; rintro r6 w6 ⟨rfl, h6, k6⟩))
  all_goals
    go_wp2_with fail
    go_end0
    exact ⟨rfl, h6, k6⟩

set_option maxRecDepth 100000 in
set_option maxHeartbeats 2000000 in
theorem create13 (D : Nat) (n : ByteArray) (st : Ds) (φ : Nat → Prop) (w : World) (h : DK w φ D st) (hs : n.size ≤ 1000000000000000) (hst : st.steps ≤ 1000000000) (hl : st.acts.length ≤ 1000000) (hdl : st.dir.length ≤ 1000000) :
    Calls Try.prog 13 #[.pointer (some ⟨D, 0, none⟩), .string n] w (DPost w φ D (stepE st (ownE st 0 n noname [])) (stepS st (ownE st 0 n noname []) (doS st 0 n noname []))) := by
  have hmf := Try.make
  have hb0 : Below w.heap.size w ((w.alloc (.cells #[.pointer (some ⟨D, 0, none⟩)] 23)).alloc (.cells #[.string n] 9)) := ((Below.refl _ w).alloc (Nat.le_refl _) _).alloc (by simp) _
  have hd0 : Arr ((w.alloc (.cells #[.pointer (some ⟨D, 0, none⟩)] 23)).alloc (.cells #[.string n] 9)) w.heap.size 23 #[.pointer (some ⟨D, 0, none⟩)] := (Arr.new w 23 _).alloc _
  have hn0 : Arr ((w.alloc (.cells #[.pointer (some ⟨D, 0, none⟩)] 23)).alloc (.cells #[.string n] 9)) (w.heap.size + 1) 9 #[.string n] := by
    have := Arr.new (w.alloc (.cells #[.pointer (some ⟨D, 0, none⟩)] 23)) 9 #[.string n]
    rwa [World.size_alloc] at this
  have hK := h.below hb0 (Nat.le_refl _)
  obtain ⟨W0, hW0⟩ : ∃ W0, W0 = (w.alloc (.cells #[.pointer (some ⟨D, 0, none⟩)] 23)).alloc (.cells #[.string n] 9) := ⟨_, rfl⟩
  rw [← hW0] at hb0 hd0 hn0 hK
  have hstep : Hid (Calls Try.prog 37 #[.pointer (some ⟨D, 0, none⟩), .func (.func 38) #[] #[.pointer (some ⟨w.heap.size + 1, 0, none⟩), .pointer (some ⟨w.heap.size, 0, none⟩)], .func (.func 41) #[] #[.pointer (some ⟨w.heap.size, 0, none⟩), .pointer (some ⟨w.heap.size + 1, 0, none⟩)]] W0
      (DPost W0 φ D (stepE st (ownE st 0 n noname [])) (stepS st (ownE st 0 n noname []) (doS st 0 n noname [])))) := by
    refine Lib.hid (step_all D 38 41 _ _ st _ φ _ W0 hK hst Try.enters38 Try.enters41 ⟨rfl, rfl, rfl, rfl, rfl⟩ ?_ ?_)
    · intro _ W hb _
      exact create38 D _ _ n noname [] st φ W (hK.below hb (Nat.le_refl _)) (hn0.below hb hn0.lt) (hd0.below hb hd0.lt) hs
    · intro _ hown W hb _
      have hsz : n.size ≤ 60 := by
        rw [ownE0] at hown
        by_cases hb : badn n = true
        · rw [if_pos hb] at hown; cases hown
        · unfold badn at hb
          simp at hb
          exact hb.2
      exact create41 D _ _ n noname [] st φ W (hK.below hb (Nat.le_refl _)) (hn0.below hb hn0.lt) (hd0.below hb hd0.lt) (fun hx => by have := h.1 _ hx; omega) (fun hx => by have := h.1 _ hx; omega) hsz hl hdl
  have HX := Lib.hid (And.intro hb0 h)
  clear hb0 hd0 hn0 hK h
  go_enter Try.func13, Try.ntmps13
  go_wp2_with fail
  rw [← hW0]
  refine hstep.out.mono ?_
  rintro e w1 ⟨rfl, h1, k1⟩
  clear hstep
  have HF := Lib.hid (And.intro h1 k1)
  clear h1 k1
  go_wp2_with fail
  go_ret
  obtain ⟨hb0, h⟩ := HX.out
  obtain ⟨h1, k1⟩ := HF.out
  have hs1 : w.heap.size ≤ w1.heap.size := Nat.le_trans hb0.size k1.size
  exact ⟨rfl, h1.mono (wid_late hb0.size) (wid_lt h.1 hs1), (Kp.none_of_below (S := φ) hb0).trans k1 (fun _ _ h => h)⟩
end Go.Proofs.Ytedjfbkfaioihaa
