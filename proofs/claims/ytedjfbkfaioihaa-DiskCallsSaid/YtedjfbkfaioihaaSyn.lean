/- Sync of a disk: what it answers and leaves. And: a file that is turned. Conditions: 10^9 steps; a name of at most 10^15 bytes; a file of at most 10^9 bytes. -/
import Derived.Test.YtedjfbkfaioihaaCre
namespace Go.Proofs.Ytedjfbkfaioihaa
open Go.RowKit Go.Shelf Go.Maps

theorem Fq_set {Q : List (Nat × Value)} {q : Nat × Value} {j : Nat} {v : Value} (h : Q[j]? = some q) (i : Nat) : Fq (Q.set j (q.1, v)) i = Fq Q i := by
  unfold Fq
  rw [List.getD_eq_getElem?_getD, List.getD_eq_getElem?_getD, List.getElem?_set]
  by_cases hij : j = i
  · subst hij
    have hj := (List.getElem?_eq_some_iff.1 h).1
    rw [if_pos rfl, if_pos hj, h]; rfl
  · rw [if_neg hij]
/-- One file has turned, and nothing else. -/
theorem Dk.setfile {w w' : World} {φ : Nat → Prop} {D bn bs j : Nat} {vp v' : Value} {Q : List (Nat × Value)} {q : Nat × Value} {x' : Fl} {st : Ds} (h : Dk w φ D bn bs vp Q st) (_ : ∀ x, φ x → x < w.heap.size) (hq : Q[j]? = some q)
    (k : Kp (fun x => x = q.1 ∨ q.2.ownBlock = some x) w w') (hF : FAt w' (wid φ w w') (q.1, v') x') (hown : v'.ownBlock = q.2.ownBlock ∨ ∃ g, v'.ownBlock = some g ∧ w.heap.size ≤ g) (hi : x'.s ≤ x'.b.length ∧ ∀ y ∈ x'.b, y < 256) :
    Dk w' (wid φ w w') D bn bs vp (Q.set j (q.1, v')) { st with fs := st.fs.set j x' } := by
  have hw : ∀ x, φ x → wid φ w w' x := fun x hx => .inl hx
  have hj := (List.getElem?_eq_some_iff.1 hq).1
  have hlen := h.fs.len
  obtain ⟨x, hx⟩ : ∃ x, st.fs[j]? = some x := ⟨_, List.getElem?_eq_getElem (by omega)⟩
  have hat := h.fs.at_ j q x hq hx
  have t1 := hat.a.ty
  have t2 : ∀ g, q.2.ownBlock = some g → ty w g = some 5 := fun g hg => by
    rcases hat.b with ⟨e, _⟩ | ⟨g', c, cur, e, _, ha, _⟩
    · rw [e] at hg; cases hg
    · rw [e] at hg
      simp [Value.ownBlock] at hg
      subst hg
      exact ha.ty
  have far : ∀ y, y < w.heap.size → ty w y ≠ some 75 → ty w y ≠ some 5 → w'.heap[y]? = w.heap[y]? := fun y hl h1 h2 => k.block y hl (by
    rintro (e | e)
    · exact h1 (by rw [e]; exact t1)
    · exact h2 (t2 y e))
  have hFq : ∀ i, Fq (Q.set j (q.1, v')) i = Fq Q i := fun i => Fq_set hq i
  refine ⟨(far D h.d.lt (by rw [h.d.ty]; simp) (by rw [h.d.ty]; simp)).trans h.d, hw _ h.pd, h.ne, ?_, ?_, ?_, ?_, ?_⟩
  · exact (((h.now.ty.keep fun y hy hl => far y hl (by rw [hy.2.2]; simp) (by rw [hy.2.2]; simp)).mono fun _ h => hw _ h.1)).congr fun e _ => hFq _
  · exact (((h.sure.ty.keep fun y hy hl => far y hl (by rw [hy.2.2]; simp) (by rw [hy.2.2]; simp)).mono fun _ h => hw _ h.1)).congr fun e _ => hFq _
  · obtain ⟨cs, r1, r2, r3⟩ := (h.pend.ty.keep fun y hy hl => far y hl (by rcases hy.2 with e | e | e <;> rw [e] <;> simp) (by rcases hy.2 with e | e | e <;> rw [e] <;> simp)).mono (fun _ h => hw _ h.1)
    exact ⟨cs, r1, r2, fun i v a hv ha => (r3 i v a hv ha).congr fun _ => hFq _⟩
  · refine ⟨by simp [hlen], ?_, ?_⟩
    · intro i r y hr hy
      have hy' : (st.fs.set j x')[i]? = some y := hy
      by_cases hij : j = i
      · subst hij
        rw [List.getElem?_set_self hj] at hr
        rw [List.getElem?_set_self (by omega)] at hy'
        injection hr with hr
        injection hy' with hy'
        subst hr; subst hy'
        exact hF
      · rw [List.getElem?_set_ne hij] at hr
        rw [List.getElem?_set_ne hij] at hy'
        have h0 := h.fs.at_ i r y hr hy'
        have hne := h.fs.ne j i q r hq hr hij
        have hne' := h.fs.ne i j r q hr hq (fun e => hij e.symm)
        refine ⟨(k.block r.1 h0.a.lt ?_).trans h0.a, hw _ h0.p, (h0.b.keep1 fun g hg _ hl => k.block g hl ?_).mono hw⟩
        · rintro (e | e)
          · exact hne.1 e.symm
          · have := t2 _ e
            rw [h0.a.ty] at this
            cases this
        · rintro (e | e)
          · have ht : ty w g = some 5 := by
              rcases h0.b with ⟨e0, _⟩ | ⟨g', c, cur, e0, _, ha, _⟩
              · rw [e0] at hg; cases hg
              · rw [e0] at hg
                simp [Value.ownBlock] at hg
                subst hg
                exact ha.ty
            rw [e, t1] at ht
            cases ht
          · exact hne.2 g e hg
    · intro i i' r r' hr hr' hii
      have gen : ∀ {i : Nat} {r : Nat × Value}, (Q.set j (q.1, v'))[i]? = some r → (i = j ∧ r = (q.1, v')) ∨ (i ≠ j ∧ Q[i]? = some r) := fun {i r} hr => by
        by_cases hij : j = i
        · subst hij
          rw [List.getElem?_set_self hj] at hr
          injection hr with hr
          exact .inl ⟨rfl, hr.symm⟩
        · rw [List.getElem?_set_ne hij] at hr
          exact .inr ⟨fun e => hij e.symm, hr⟩
      have old : ∀ {i : Nat} {r : Nat × Value}, Q[i]? = some r → ∀ g, r.2.ownBlock = some g → g < w.heap.size := fun {i r} hr g hg => by
        have hi' := (List.getElem?_eq_some_iff.1 hr).1
        exact ((h.fs.at_ i r st.fs[i] hr (by rw [List.getElem?_eq_getElem (by omega)])).b.own g hg).2
      rcases gen hr with ⟨hi1, rfl⟩ | ⟨hi1, hr⟩ <;> rcases gen hr' with ⟨hi2, rfl⟩ | ⟨hi2, hr'⟩
      · omega
      · have hne := h.fs.ne j i' q r' hq hr' (by omega)
        refine ⟨hne.1, fun g hg => ?_⟩
        rcases hown with e | ⟨g0, e, hl⟩
        · exact hne.2 g (by rw [← e]; exact hg)
        · intro e2
          have := old hr' g e2
          have e3 : v'.ownBlock = some g := hg
          rw [e] at e3
          injection e3 with e3
          omega
      · have hne := h.fs.ne i j r q hr hq (by omega)
        refine ⟨hne.1, fun g hg => ?_⟩
        rcases hown with e | ⟨g0, e, hl⟩
        · show v'.ownBlock ≠ some g
          rw [e]; exact hne.2 g hg
        · intro e2
          have := old hr g hg
          have e3 : v'.ownBlock = some g := e2
          rw [e] at e3
          injection e3 with e3
          omega
      · exact h.fs.ne i i' r r' hr hr' hii
  · refine ⟨fun e he => ?_, fun e he => ?_, fun a ha => ?_, h.inv.risd, h.inv.riss, h.inv.one, h.inv.ones, fun y hy => ?_, h.inv.quota, h.inv.fuse, h.inv.fault, h.inv.steps⟩
    · have := h.inv.dir e he; exact ⟨by show e.f < (st.fs.set j x').length; simpa using this.1, this.2⟩
    · have := h.inv.sure e he; exact ⟨by show e.f < (st.fs.set j x').length; simpa using this.1, this.2⟩
    · have := h.inv.acts a ha; exact ⟨this.1, this.2.1, this.2.2.1, fun e => by show a.f < (st.fs.set j x').length; simpa using this.2.2.2 e⟩
    · rcases List.mem_or_eq_of_mem_set (show y ∈ st.fs.set j x' from hy) with hy | rfl
      · exact h.inv.fs y hy
      · exact hi
/-- The file of a name. -/
theorem Dk.file {w : World} {φ : Nat → Prop} {D bn bs j : Nat} {vp : Value} {Q : List (Nat × Value)} {st : Ds} {n : List UInt8} (h : Dk w φ D bn bs vp Q st) (hf : fnd n st.dir = some j) :
    ∃ q, Q[j]? = some q ∧ Fq Q j = q.1 ∧ st.fs[j]? = some (fl st.fs j) ∧ FAt w φ q (fl st.fs j) ∧ ((fl st.fs j).s ≤ (fl st.fs j).b.length ∧ ∀ y ∈ (fl st.fs j).b, y < 256) := by
  obtain ⟨_, e, he, _, hej⟩ := fnd_some hf
  have hj := (h.inv.dir e he).1
  rw [hej] at hj
  have hQ := h.fs.len
  have hx : st.fs[j]? = some (fl st.fs j) := by unfold fl; rw [List.getD_eq_getElem?_getD, List.getElem?_eq_getElem hj]; rfl
  refine ⟨Q[j]'(by omega), List.getElem?_eq_getElem _, ?_, hx, h.fs.at_ j _ _ (List.getElem?_eq_getElem _) hx, h.inv.fs _ (List.mem_of_getElem? hx)⟩
  unfold Fq
  rw [List.getD_eq_getElem?_getD, List.getElem?_eq_getElem (by omega)]
  rfl

/-- What is asked where the name must be there. -/
def own6 (n : ByteArray) (L : List En) : Int := if hasp n.data.toList L = false then 6 else 0
theorem own6_yes {n : ByteArray} {L : List En} (h : hasp n.data.toList L = true) : own6 n L = 0 := by unfold own6; rw [if_neg (by rw [h]; decide)]
theorem own6_no {n : ByteArray} {L : List En} (h : hasp n.data.toList L = false) : own6 n L = 6 := by unfold own6; rw [if_pos h]

set_option maxRecDepth 100000 in
set_option maxHeartbeats 1000000 in
theorem sync44 (D pn pd : Nat) (n : ByteArray) (st : Ds) (φ : Nat → Prop) (w : World) (h : DK w φ D st) (hn : Arr w pn 9 #[.string n]) (hd : Arr w pd 23 #[.pointer (some ⟨D, 0, none⟩)]) (hs : n.size ≤ 1000000000000000) :
    Calls Try.prog 44 #[.pointer (some ⟨pd, 0, none⟩), .pointer (some ⟨pn, 0, none⟩)] w (AskPost w (own6 n st.dir)) := by
  obtain ⟨hφ, bn, bs, vp, Q, hk⟩ := h
  have cn : w.cell? ⟨pn, 0, none⟩ = some (.string n) := hn.at_ rfl
  have cd : w.cell? ⟨pd, 0, none⟩ = some (.pointer (some ⟨D, 0, none⟩)) := hd.at_ rfl
  have ht := there45 D bn _ _ φ _ n w hk.d rfl hk.now hs
  clear hn hd hk hφ
  cases hh : hasp n.data.toList st.dir
  · rw [own6_no hh]
    go_enter Try.func44, Try.ntmps44
    go_wp2_with fail
    refine ht.mono ?_
    rintro e w1 ⟨rfl, _, he⟩
    obtain rfl := he hh
    go_wp2_with fail
    exact ⟨rfl, AskPost.no (by decide) (Below.refl _ _)⟩
  · rw [own6_yes hh]
    go_enter Try.func44, Try.ntmps44
    go_wp2_with fail
    refine ht.mono ?_
    rintro e w1 ⟨rfl, he, _⟩
    obtain rfl := he hh
    go_wp2_with fail
    go_end0
    exact AskPost.yes (Below.refl _ _)

set_option maxRecDepth 100000 in
set_option maxHeartbeats 2000000 in
theorem sync46 (D pn pd : Nat) (n m : ByteArray) (b : List Nat) (st : Ds) (φ : Nat → Prop) (w : World) (h : DK w φ D st) (hn : Arr w pn 9 #[.string n]) (hd : Arr w pd 23 #[.pointer (some ⟨D, 0, none⟩)]) (hs : n.size ≤ 1000000000000000) (hh : hasp n.data.toList st.dir = true) (hb : ∀ x ∈ st.fs, x.b.length ≤ 1000000000) :
    Calls Try.prog 46 #[.pointer (some ⟨pd, 0, none⟩), .pointer (some ⟨pn, 0, none⟩)] w (DoPost w φ D (doS st 2 n m b)) := by
  obtain ⟨hφ, bn, bs, vp, Q, hk⟩ := h
  have cn : w.cell? ⟨pn, 0, none⟩ = some (.string n) := hn.at_ rfl
  have cd : w.cell? ⟨pd, 0, none⟩ = some (.pointer (some ⟨D, 0, none⟩)) := hd.at_ rfl
  have c1 : w.cell? ⟨D, 1, none⟩ = some (.map (some bn)) := hk.d.at_ rfl
  obtain ⟨j, hj⟩ : ∃ j, fnd n.data.toList st.dir = some j := by
    cases hf : fnd n.data.toList st.dir with
    | none => have := fnd_none.1 hf; rw [hh] at this; cases this
    | some j => exact ⟨j, rfl⟩
  have hlk := look_2 (w := w.drew) (own_heap hk.now.m rfl) n (by unfold maxLen; omega)
  obtain ⟨q, hq, hFq, hx, hat, hrng⟩ := hk.file hj
  rw [lkv_some hj, hFq] at hlk
  obtain ⟨A, c, hqs, hrd, hlc, hcm, _⟩ := hat.b.form
  have hb1 := hb _ (List.mem_of_getElem? hx)
  obtain ⟨y, hy⟩ : ∃ y, y = fl st.fs j := ⟨_, rfl⟩
  rw [← hy] at hat hrng hqs hlc hb1 hrd hx
  have g0 : w.cell? ⟨q.1, 0, none⟩ = some (.slice A y.b.length c) := by rw [← hqs]; exact hat.a.at_ rfl
  have g1 : w.cell? ⟨q.1, 1, none⟩ = some (.int .i64 (y.s : Nat)) := hat.a.at_ rfl
  have f1 := hat.a.frozen 1
  have HF : Hid (∀ w0, w0 = w.drew.setCell ⟨q.1, 1, none⟩ (.int .i64 (y.b.length : Nat)) → DoPost w φ D (doS st 2 n m b) (.returned (.tuple #[])) w0) := by
    refine Lib.hid fun w0 h0 => ?_
    have hk1 : Kp (fun x => x = q.1 ∨ q.2.ownBlock = some x) w w0 := by rw [h0]; exact (Kp.refl (fun x => x = q.1 ∨ q.2.ownBlock = some x) w).drew.setCell (p := ⟨q.1, 1, none⟩) (.inl (.inl rfl)) _
    have hne : q.2.ownBlock ≠ some q.1 := by
      intro e
      rcases hat.b with ⟨e0, _⟩ | ⟨g', c', cur, e0, _, ha, _⟩
      · rw [e0] at e; cases e
      · rw [e0] at e
        simp [Value.ownBlock] at e
        rw [e] at ha
        have h1 := ha.ty
        rw [hat.a.ty] at h1
        cases h1
    have hF : FAt w0 (wid φ w w0) (q.1, q.2) ⟨y.b, y.b.length⟩ := by
      refine ⟨?_, .inl hat.p, ?_⟩
      · rw [h0]
        exact hat.a.drew.set 1 (.int .i64 (y.b.length : Nat))
      · refine (hat.b.keep1 fun g hg _ hl => ?_).mono fun _ h => .inl h
        rw [h0]
        exact Below.heap_setCell w.drew _ _ g (by intro e; exact hne (by rw [hg, e]))
    have hset := hk.setfile hφ hq hk1 hF (.inl rfl) ⟨Nat.le_refl _, hrng.2⟩
    refine ⟨rfl, ⟨wid_lt (w := w) hφ hk1.size, bn, bs, vp, Q.set j (q.1, q.2), ?_⟩, ?_⟩
    · have e : doS st 2 n m b = { st with fs := st.fs.set j ⟨y.b, y.b.length⟩ } := by unfold doS; simp only [hj]; rw [hy]
      rw [e]
      exact hset
    · exact hk1.mono fun x hx' e => by
        rcases e with e | e
        · rw [e]; exact hat.p
        · exact (hat.b.own x e).1
  clear hn hd hk hφ hq hat hqs hrd hj hh hb hx hrng hy hFq
  obtain ⟨qa, qv⟩ := q
  simp only at g0 g1 f1 hlk HF
  go_enter Try.func46, Try.ntmps46
  go_wp2_with fail
  go_region_held3 (fun w' => w'.cell? ⟨pn, 0, none⟩ = some (.string n) ∧ w'.cell? ⟨pd, 0, none⟩ = some (.pointer (some ⟨D, 0, none⟩)) ∧ w'.cell? ⟨D, 1, none⟩ = some (.map (some bn)) ∧ (Instr.lookup 61 (.map (some bn)) (.string n) false).run Try.prog w' = .ok (.pointer (some ⟨qa, 0, none⟩)) w') (exact ⟨cn, cd, c1, hlk⟩) (fail)
  go_wp2_with fail
  go_end0
  exact HF.out _ (by first | rfl | (rw [World.setCell_drew]))

theorem Try.enters44 : Enters Try.prog 44 := enters_of Try.func44 (by kernel_rfl) rfl
theorem Try.enters46 : Enters Try.prog 46 := enters_of Try.func46 (by kernel_rfl) rfl
theorem own_own6 (st : Ds) (k : Nat) (n m : ByteArray) (b : List Nat) (hk : k = 2 ∨ k = 4) : ownE st k n m b = own6 n st.dir := by
  rcases hk with rfl | rfl <;> rfl
/-- A step begun in a call that has laid blocks of its own. -/
theorem DPost.late {w W0 : World} {φ : Nat → Prop} {D : Nat} {x : Int} {st st' : Ds} {e : Ending} {w1 : World} (h : DK w φ D st) (hb0 : Below w.heap.size w W0) (hp : DPost W0 φ D x st' e w1) : DPost w φ D x st' e w1 := by
  obtain ⟨he, h1, k1⟩ := hp
  have hs1 : w.heap.size ≤ w1.heap.size := Nat.le_trans hb0.size k1.size
  exact ⟨he, h1.mono (wid_late hb0.size) (wid_lt h.1 hs1), (Kp.none_of_below (S := φ) hb0).trans k1 (fun _ _ h => h)⟩

set_option maxRecDepth 100000 in
set_option maxHeartbeats 2000000 in
theorem sync15 (D : Nat) (n : ByteArray) (st : Ds) (φ : Nat → Prop) (w : World) (h : DK w φ D st) (hs : n.size ≤ 1000000000000000) (hst : st.steps ≤ 1000000000) (hb : ∀ x ∈ st.fs, x.b.length ≤ 1000000000) :
    Calls Try.prog 15 #[.pointer (some ⟨D, 0, none⟩), .string n] w (DPost w φ D (stepE st (ownE st 2 n noname [])) (stepS st (ownE st 2 n noname []) (doS st 2 n noname []))) := by
  have hmf := Try.make
  have hb0 : Below w.heap.size w ((w.alloc (.cells #[.pointer (some ⟨D, 0, none⟩)] 23)).alloc (.cells #[.string n] 9)) := ((Below.refl _ w).alloc (Nat.le_refl _) _).alloc (by simp) _
  have hd0 : Arr ((w.alloc (.cells #[.pointer (some ⟨D, 0, none⟩)] 23)).alloc (.cells #[.string n] 9)) w.heap.size 23 #[.pointer (some ⟨D, 0, none⟩)] := (Arr.new w 23 _).alloc _
  have hn0 : Arr ((w.alloc (.cells #[.pointer (some ⟨D, 0, none⟩)] 23)).alloc (.cells #[.string n] 9)) (w.heap.size + 1) 9 #[.string n] := by
    have := Arr.new (w.alloc (.cells #[.pointer (some ⟨D, 0, none⟩)] 23)) 9 #[.string n]
    rwa [World.size_alloc] at this
  have hK := h.below hb0 (Nat.le_refl _)
  obtain ⟨W0, hW0⟩ : ∃ W0, W0 = (w.alloc (.cells #[.pointer (some ⟨D, 0, none⟩)] 23)).alloc (.cells #[.string n] 9) := ⟨_, rfl⟩
  rw [← hW0] at hb0 hd0 hn0 hK
  have hstep : Hid (Calls Try.prog 37 #[.pointer (some ⟨D, 0, none⟩), .func (.func 44) #[] #[.pointer (some ⟨w.heap.size, 0, none⟩), .pointer (some ⟨w.heap.size + 1, 0, none⟩)], .func (.func 46) #[] #[.pointer (some ⟨w.heap.size, 0, none⟩), .pointer (some ⟨w.heap.size + 1, 0, none⟩)]] W0
      (DPost W0 φ D (stepE st (ownE st 2 n noname [])) (stepS st (ownE st 2 n noname []) (doS st 2 n noname [])))) := by
    rw [own_own6 st 2 n noname [] (.inl rfl)]
    refine Lib.hid (step_all D 44 46 _ _ st _ φ _ W0 hK hst Try.enters44 Try.enters46 ?_ ?_ ?_)
    · unfold doS SameC
      cases fnd n.data.toList st.dir <;> exact ⟨rfl, rfl, rfl, rfl, rfl⟩
    · intro _ W hb' _
      exact sync44 D _ _ n st φ W (hK.below hb' (Nat.le_refl _)) (hn0.below hb' hn0.lt) (hd0.below hb' hd0.lt) hs
    · intro _ hown W hb' _
      have hh : hasp n.data.toList st.dir = true := by
        cases hh : hasp n.data.toList st.dir with
        | true => rfl
        | false => rw [own6_no hh] at hown; cases hown
      exact sync46 D _ _ n noname [] st φ W (hK.below hb' (Nat.le_refl _)) (hn0.below hb' hn0.lt) (hd0.below hb' hd0.lt) hs hh hb
  have HX := Lib.hid (And.intro hb0 h)
  clear hb0 hd0 hn0 hK h
  go_enter Try.func15, Try.ntmps15
  go_wp2_with fail
  rw [← hW0]
  refine hstep.out.mono ?_
  clear hstep
  intro e w1 hp
  have HF := Lib.hid (DPost.late HX.out.2 HX.out.1 hp)
  obtain ⟨rfl, _, _⟩ := hp
  go_wp2_with fail
  go_ret
  exact HF.out
end Go.Proofs.Ytedjfbkfaioihaa
