/- An act is done to a disk's directory, and is pending from then on. Conditions: at most 10^6 names, as many acts pending. -/
import Derived.Test.YtedjfbkfaioihaaAsk
namespace Go.Proofs.Ytedjfbkfaioihaa
open Go.RowKit Go.Shelf Go.Maps

def acted (st : Ds) (a : Ac) : Ds := { st with dir := actD a st.dir, acts := st.acts ++ [a] }
theorem Try.info72' : (Try.prog.info? 72).map (fun i => (i.zero, i.size, i.bytes)) = some (some .nilFunc, 1, 8) := by kernel_rfl
theorem Try.enters82 : ∀ (args : Array Value) (w : World), (callFunc 82 args).run Try.prog w = .ok (.enter 82 args) w := enters_of Try.func82 (by kernel_rfl) rfl
theorem Try.enters83 : ∀ (args : Array Value) (w : World), (callFunc 83 args).run Try.prog w = .ok (.enter 83 args) w := enters_of Try.func83 (by kernel_rfl) rfl
theorem Try.enters88 : ∀ (args : Array Value) (w : World), (callFunc 88 args).run Try.prog w = .ok (.enter 88 args) w := enters_of Try.func88 (by kernel_rfl) rfl

theorem own_shape {w : World} {base n : Nat} {e : TypeId} {sz : Nat} {v : Value} {xs : List Value} (h : w.ownsRow base e sz v n xs) : ∃ A m c, v = .slice A m c ∧ m = n := by
  rcases h.2 with ⟨rfl, h0⟩ | ⟨g, cap, cur, rfl, _⟩
  · exact ⟨none, 0, 0, rfl, h0.symm⟩
  · exact ⟨_, _, _, rfl, rfl⟩
/-- What acted leaves. -/
def ADone (w : World) (φ : Nat → Prop) (D bn bs : Nat) (Q : List (Nat × Value)) (st' : Ds) (e : Ending) (w' : World) : Prop :=
  e = .returned (.tuple #[]) ∧ (∃ vp, Dk w' (wid φ w w') D bn bs vp Q st') ∧ Kp φ w w'
/-- Behind the act, ahead of the append. -/
theorem acted_mid {w w1 : World} {φ : Nat → Prop} {D bn bs : Nat} {vp : Value} {Q : List (Nat × Value)} {st : Ds} {L : List En} (h : Dk w φ D bn bs vp Q st) (_ : Mp w1 φ bn (Fq Q) L) (hk : Kp (fun x => x = bn) w w1) :
    Arr w1 D 64 (dcs bn bs vp st) ∧ Mp w1 φ bs (Fq Q) st.sure ∧ Pn w1 φ (Fq Q) vp st.acts ∧ Fis w1 φ Q st.fs := by
  have hbt : ty w bn = none := by obtain ⟨⟨_, _, h1⟩, _⟩ := h.now.ty; exact h1
  have ne : ∀ x, ty w x ≠ none → x ≠ bn := fun x hx e => hx (by rw [e]; exact hbt)
  refine ⟨h.d.kp hk (ne D (by rw [h.d.ty]; simp)), ?_, ?_, ?_⟩
  · exact (h.sure.ty.keep fun x hx hl => hk.block x hl (by intro e; exact h.ne (by rw [← hx.2.1, e]))).mono fun _ h => h.1
  · exact (h.pend.ty.keep fun x hx hl => hk.block x hl (ne x (by rcases hx.2 with e | e | e <;> rw [e] <;> simp))).mono fun _ h => h.1
  · exact (h.fs.ty.keep fun x hx hl => hk.block x hl (ne x (by rcases hx.2 with e | e <;> rw [e] <;> simp))).mono fun _ h => h.1
/-- Behind the append. -/
theorem acted_end {w w1 w2 : World} {φ : Nat → Prop} {D bn bs : Nat} {vp vp2 v : Value} {Q : List (Nat × Value)} {st : Ds} {a : Ac} {cs : List Value} (_ : ∀ x, φ x → x < w.heap.size) (hpd : φ D) (hne : bn ≠ bs) (hsz : w1.heap.size = w.heap.size) (hkw : Kp (fun x => x = bn) w w1) (hbn : φ bn)
    (hd : Arr w1 D 64 (dcs bn bs vp st)) (hm : Mp w1 φ bn (Fq Q) (actD a st.dir)) (hs : Mp w1 φ bs (Fq Q) st.sure) (hrow : w1.ownsRow 0 72 1 vp st.acts.length cs) (hvp : ∀ x, vp.ownBlock = some x → φ x)
    (hat : ∀ (i : Nat) v a, cs[i]? = some v → st.acts[i]? = some a → AAt w1 φ (Fq Q) v a) (hv : AAt w1 φ (Fq Q) v a) (hf : Fis w1 φ Q st.fs)
    (hrow2 : w2.ownsRow 0 72 1 vp2 (st.acts.length + 1) (cs ++ [v])) (hg : (w1.alloc (.cells #[v] 72)).grownBy w2 vp.ownBlock) (hat2 : vp2.ownBlock = vp.ownBlock ∨ vp2.ownBlock = some (w1.heap.size + 1)) (hi : Inv (acted st a)) :
    ADone w φ D bn bs Q (acted st a) (.returned (.tuple #[])) (w2.setCell ⟨D, 3, none⟩ vp2) := by
  have hrl : cs.length = st.acts.length := by have := hrow.1; omega
  -- the append, the new array's block
  have hk12 : Kp (fun x => vp.ownBlock = some x) w1 w2 := ((Kp.refl _ w1).alloc _).grown hg (fun x _ e => e)
  have hvpt : ∀ x, vp.ownBlock = some x → ty w1 x = some 72 := row_ty hrow
  have ne : ∀ x, ty w1 x ≠ some 72 → vp.ownBlock ≠ some x := fun x hx e => hx (hvpt x e)
  have hk3 : Kp (fun x => x = D) w2 (w2.setCell ⟨D, 3, none⟩ vp2) := Kp.set _ w2 D 3 vp2 rfl
  have hd2 := hd.kp hk12 (ne D (by rw [hd.ty]; simp))
  have hd3 : Arr (w2.setCell ⟨D, 3, none⟩ vp2) D 64 (dcs bn bs vp2 (acted st a)) := hd2.set 3 vp2
  have hD2 := hd2.ty
  have hsz2 : w1.heap.size + 1 ≤ w2.heap.size := by have := hg.size; simpa using this
  have hall : ∀ x, x < w1.heap.size → ty w1 x ≠ some 72 → ty w1 x ≠ some 64 → (w2.setCell ⟨D, 3, none⟩ vp2).heap[x]? = w1.heap[x]? := fun x hl h1 h2 => by
    have hx : x ≠ D := fun e => h2 (by rw [e]; exact hd.ty)
    exact (hk3.block x (Nat.lt_of_lt_of_le hl hk12.size) hx).trans (hk12.block x hl (ne x h1))
  have hsz3 : (w2.setCell ⟨D, 3, none⟩ vp2).heap.size = w2.heap.size := by simp
  have hup : ∀ x, φ x → wid φ w (w2.setCell ⟨D, 3, none⟩ vp2) x := fun x hx => .inl hx
  refine ⟨rfl, ⟨vp2, hd3, .inl hpd, hne, ?_, ?_, ?_, ?_, hi⟩, ?_⟩
  · exact (hm.ty.keep fun x hx hl => hall x hl (by rw [hx.2.2]; simp) (by rw [hx.2.2]; simp)).mono fun x h => hup x h.1
  · exact (hs.ty.keep fun x hx hl => hall x hl (by rw [hx.2.2]; simp) (by rw [hx.2.2]; simp)).mono fun x h => hup x h.1
  · refine ⟨cs ++ [v], ?_, ?_, ?_⟩
    · show (w2.setCell ⟨D, 3, none⟩ vp2).ownsRow 0 72 1 vp2 (st.acts ++ [a]).length (cs ++ [v])
      rw [List.length_append]
      refine row_heap hrow2 fun x hx hl => hk3.block x hl ?_
      intro e
      have h1 := row_ty hrow2 x hx
      rw [e, hD2] at h1
      cases h1
    · intro x hx
      rcases hat2 with h | h
      · exact .inl (hvp x (by rw [← h]; exact hx))
      · rw [h] at hx
        injection hx with hx
        refine .inr ⟨by omega, ?_⟩
        have := (hrow2.lt x (by rw [h, hx])).2
        rw [hsz3]; omega
    · intro i u b hu hb
      have hb' : (st.acts ++ [a])[i]? = some b := hb
      have keepA : ∀ u b, AAt w1 φ (Fq Q) u b → AAt (w2.setCell ⟨D, 3, none⟩ vp2) (wid φ w (w2.setCell ⟨D, 3, none⟩ vp2)) (Fq Q) u b := fun u b h =>
        (h.ty.keep fun x hx hl => hall x hl (by rcases hx.2 with e | e <;> rw [e] <;> simp) (by rcases hx.2 with e | e <;> rw [e] <;> simp)).mono fun x h => hup x h.1
      rcases Nat.lt_trichotomy i st.acts.length with hi | hi | hi
      · rw [List.getElem?_append_left (by omega)] at hu
        rw [List.getElem?_append_left hi] at hb'
        exact keepA _ _ (hat i u b hu hb')
      · subst hi
        rw [List.getElem?_append_right (by omega), hrl] at hu
        rw [List.getElem?_append_right (by omega)] at hb'
        simp at hu hb'
        subst hu; subst hb'
        exact keepA _ _ hv
      · rw [List.getElem?_append_right (by omega)] at hb'
        have := (List.getElem?_eq_some_iff.1 hb').1
        simp at this
        omega
  · exact (hf.ty.keep fun x hx hl => hall x hl (by rcases hx.2 with e | e <;> rw [e] <;> simp) (by rcases hx.2 with e | e <;> rw [e] <;> simp)).mono fun x h => hup x h.1
  · refine (hkw.mono fun x _ e => by rw [e]; exact hbn).trans ((hk12.mono fun x _ e => hvp x e).trans (hk3.mono fun x _ e => by rw [e]; exact hpd) (fun _ _ h => h)) (fun _ _ h => h)


set_option maxRecDepth 100000 in
set_option maxHeartbeats 2000000 in
theorem acted42_gen (fid : Nat) (caps : Array Value) (D bn bs : Nat) (vp : Value) (Q : List (Nat × Value)) (st : Ds) (a : Ac) (φ : Nat → Prop) (w : World) (h : Dk w φ D bn bs vp Q st) (hφ : ∀ x, φ x → x < w.heap.size)
    (hent : ∀ (args : Array Value) (w : World), (callFunc fid args).run Try.prog w = .ok (.enter fid args) w)
    (ha : AAt w φ (Fq Q) (.func (.func fid) #[] caps) a) (hl : st.acts.length ≤ 1000000) (hi : Inv (acted st a))
    (hact : Calls Try.prog fid (#[.map (some bn)] ++ caps) w (ActPost w φ bn (Fq Q) (actD a st.dir))) :
    Calls Try.prog 42 #[.pointer (some ⟨D, 0, none⟩), .func (.func fid) #[] caps] w (ADone w φ D bn bs Q (acted st a)) := by
  obtain ⟨i0, hi0, hz0, hz1, hz2⟩ := info_parts Try.info72'
  have c1 : w.cell? ⟨D, 1, none⟩ = some (.map (some bn)) := h.d.at_ rfl
  have HH := Lib.hid (And.intro h (And.intro hφ (And.intro ha (And.intro hi hl))))
  clear h hφ ha hi
  go_enter Try.func42, Try.ntmps42
  go_wp2_with fail
  refine hact.mono ?_
  clear hact
  rintro e w1 ⟨rfl, hm1, hk1, hs1⟩
  obtain ⟨h, hφ, ha, hi, hl⟩ := HH.out
  obtain ⟨hd1, hsu1, hp1, hf1⟩ := acted_mid h hm1 hk1
  obtain ⟨cs, hrow, hvp, hat⟩ := hp1
  have hbt : ty w bn = none := by obtain ⟨⟨_, _, h1⟩, _⟩ := h.now.ty; exact h1
  have hav : AAt w1 φ (Fq Q) (.func (.func fid) #[] caps) a := (ha.ty.keep fun x hx hl => hk1.block x hl (by intro e; rw [e, hbt] at hx; rcases hx.2 with e | e <;> cases e)).mono fun _ h => h.1
  have c3 : w1.cell? ⟨D, 3, none⟩ = some vp := hd1.at_ rfl
  have hfin := fun vp2 w2 h1 h2 h3 => acted_end (vp2 := vp2) (w2 := w2) hφ h.pd h.ne hs1 hk1 h.now.p hd1 hm1 hsu1 hrow hvp hat hav hf1 h1 h2 h3 hi
  have HF := Lib.hid hfin
  have HD1 := Lib.hid hd1
  have HR := Lib.hid hrow
  have hDlt := hd1.lt
  clear h hφ ha hi hd1 hsu1 hrow hvp hat hm1 hk1 hf1 hav hfin hs1 hbt HH
  go_wp2_with (at_builtin; refine wpList_append_own_at _ rfl _ _ 62 rfl 0 72 i0 _ 1 8 Try.underlying62 hi0 hz0 hz1 hz2 rfl (by decide) vp _ _ rfl (HR.out.alloc _) ⟨w1.heap.size, 0, none⟩ 1 1 [.func (.func fid) #[] caps] rfl rfl (by intro j u hu; have := (Arr.new w1 72 #[Value.func (.func fid) #[] caps]).cell j; rw [add_at, Nat.zero_add, this]; simpa using hu) (by simp [Value.oneCell']) (by unfold maxLen; omega) (by omega) (by omega) ?_; intro vp2 w2 hown2 hg2 _ hat2; obtain ⟨A2, m2, c2, rfl, hm2⟩ := own_shape hown2; have HM2 := Lib.hid hm2; clear hm2; have HO2 := Lib.hid (And.intro hown2 (And.intro hg2 hat2)); have hd2 : Arr w2 D 64 (dcs bn bs vp st) := (HD1.out.alloc (.cells #[.func (.func fid) #[] caps] 72)).grown hg2 (by intro e; have h1 := row_ty HR.out D e; rw [HD1.out.ty] at h1; cases h1); have f3 := hd2.frozen 3; have c3' : w2.cell? ⟨D, 3, none⟩ = some vp := hd2.at_ rfl; clear hown2 hg2 hat2 hd2)
  go_end0
  refine HF.out _ w2 HO2.out.1 HO2.out.2.1 ?_
  have := HO2.out.2.2
  simpa using this

/-- An act is done, and is pending. -/
theorem acted42 (D bn bs : Nat) (vp v : Value) (Q : List (Nat × Value)) (st : Ds) (a : Ac) (φ : Nat → Prop) (w : World) (h : Dk w φ D bn bs vp Q st) (hφ : ∀ x, φ x → x < w.heap.size)
    (ha : AAt w φ (Fq Q) v a) (hl : st.acts.length ≤ 1000000) (hd : st.dir.length ≤ 1000000) (hi : Inv (acted st a)) : Calls Try.prog 42 #[.pointer (some ⟨D, 0, none⟩), v] w (ADone w φ D bn bs Q (acted st a)) := by
  have hsz := hi.acts a (by show a ∈ st.acts ++ [a]; simp)
  rcases id ha with ⟨h0, p, q, rfl, h2, h3, h4, h5⟩ | ⟨h0, p, q, rfl, h2, h3, h4, h5⟩ | ⟨h0, p, rfl, h2, h3⟩
  · refine acted42_gen 82 _ D bn bs vp Q st a φ w h hφ Try.enters82 ha hl hi ?_
    have e : actD a st.dir = putp ⟨a.n, a.f⟩ st.dir := by unfold actD; rw [h0]; rfl
    rw [e]
    exact given82 bn p q φ (Fq Q) st.dir a.n a.f w h.now h4 h5 (by omega) hd
  · refine acted42_gen 88 _ D bn bs vp Q st a φ w h hφ Try.enters88 ha hl hi ?_
    exact moved88 bn p q φ (Fq Q) st.dir a h0 w h.now h4 h5 (by omega) (by omega) hd
  · refine acted42_gen 83 _ D bn bs vp Q st a φ w h hφ Try.enters83 ha hl hi ?_
    have e : actD a st.dir = delp a.n.data.toList st.dir := by unfold actD; rw [h0]; rfl
    rw [e]
    exact taken83 bn p φ (Fq Q) st.dir a.n w h.now h3 (by omega)
end Go.Proofs.Ytedjfbkfaioihaa
