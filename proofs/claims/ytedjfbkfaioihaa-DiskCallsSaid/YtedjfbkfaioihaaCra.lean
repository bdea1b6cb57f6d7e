/- A crash, step by step: what holds between its steps. Conditions: at most 10^6 names and acts; files of at most 10^9 bytes. -/
import Derived.Test.YtedjfbkfaioihaaCpl
namespace Go.Proofs.Ytedjfbkfaioihaa
open Go.RowKit Go.Shelf Go.Maps

/-- An element of a row, and where it lies. -/
theorem row_at {w : World} {base e n c j : Nat} {A : Option Addr} {xs : List Value} {u : Value} (h : w.ownsRow base e 1 (.slice A n c) n xs) (hu : xs[j]? = some u) :
    ∃ r, A = some ⟨r, 0, none⟩ ∧ r < w.heap.size ∧ ty w r = some e ∧ ∀ w' : World, w'.heap[r]? = w.heap[r]? → w'.cell? ⟨r, j, none⟩ = some u := by
  have hx : xs.length = n := by have := h.1; omega
  have hj := (List.getElem?_eq_some_iff.1 hu).1
  obtain ⟨r, cap, cur, hv, _, ha, _⟩ := own_form h (by omega)
  injection hv with h1 _ h3
  subst h1
  subst h3
  exact ⟨r, rfl, ha.lt, ha.ty, fun w' hw => (World.cell?_of_block (a := ⟨r, j, none⟩) hw).trans (own_cell h hu)⟩
/-- While the acts are done: i numbers told, j acts seen. -/
structure R1 (w : World) (φ χ : Nat → Prop) (P bs : Nat) (F : Nat → Nat) (st : Ds) (keep : List Int) (i j : Nat) (wr : World) : Prop where
  k : Kp (fun x => x = bs ∨ x = P) w wr
  m : Mp wr φ bs F (crashA keep 0 (st.acts.take j) st.sure)
  p : Pk wr χ P (keep.drop i)
section
variable {w wr w1 : World} {φ χ : Nat → Prop} {P bs : Nat} {F : Nat → Nat} {st : Ds} {keep : List Int} {i j : Nat} {e : Ending}
theorem R1.drewN (h : R1 w φ χ P bs F st keep i j wr) (n : Nat) : R1 w φ χ P bs F st keep i j (wr.drewN n) :=
  ⟨h.k.drewN n, h.m.keep fun _ _ _ => rfl, h.p.kp ((Kp.refl (fun _ => False) wr).drewN n) (fun h => h) (fun _ _ h => h)⟩
theorem R1.next (h : R1 w φ χ P bs F st keep i j wr) (hP : ¬ φ P) (hn : NextPost wr χ P (keep.drop i) e w1) : e = .returned (.int .i64 (pick keep i)) ∧ R1 w φ χ P bs F st keep (i + 1) j w1 := by
  obtain ⟨he, hp, hk⟩ := hn
  rw [pick_head] at he
  rw [pick_tail] at hp
  refine ⟨he, h.k.trans hk (fun _ _ e => .inr e), h.m.keep fun x hx hl => hk.block x hl (fun e => hP (by rw [← e]; exact hx)), hp⟩
theorem R1.skip (h : R1 w φ χ P bs F st keep i j wr) {a : Ac} (ha : st.acts[j]? = some a) (ho : odd (pick keep j) = false) : R1 w φ χ P bs F st keep i (j + 1) wr := by
  refine ⟨h.k, ?_, h.p⟩
  rw [crashA_step ha, if_neg (by rw [ho]; decide)]
  exact h.m
theorem R1.act (h : R1 w φ χ P bs F st keep i j wr) (hP : bs ≠ P) (hχ : ¬ χ bs) {a : Ac} (ha : st.acts[j]? = some a) (ho : odd (pick keep j) = true) (hp : ActPost wr φ bs F (actD a (crashA keep 0 (st.acts.take j) st.sure)) e w1) : R1 w φ χ P bs F st keep i (j + 1) w1 := by
  obtain ⟨_, hm, hk, _⟩ := hp
  refine ⟨h.k.trans hk (fun _ _ e => .inl e), ?_, h.p.kp hk (fun e => hP e.symm) (fun x hx e => hχ (by rw [← e]; exact hx))⟩
  rw [crashA_step ha, if_pos ho]
  exact hm
end

/-- While the files are looked at: i numbers told, j names seen. -/
def R2 (w : World) (φ χ : Nat → Prop) (P D bn bs base : Nat) (v : Value) (st : Ds) (keep : List Int) (L : List En) (F : Nat → Nat) (a0 i j : Nat) (wr : World) : Prop :=
  ∃ Q, Fq Q = F ∧ Dk wr (wid φ w wr) D bn bs (.slice none 0 0) Q { st with fs := (crashT keep L a0 st.fs j).2 } ∧ Pk wr χ P (keep.drop i) ∧ Kp φ w wr ∧ wr.ownsRow base 9 1 v L.length (L.map fun p => .string p.n) ∧ ∀ x ∈ (crashT keep L a0 st.fs j).2, x.b.length ≤ 1000000000
section
variable {w wr w1 : World} {φ χ : Nat → Prop} {P D bn bs base : Nat} {v : Value} {st : Ds} {keep : List Int} {L : List En} {F : Nat → Nat} {a0 i j : Nat} {e : Ending}
theorem R2.drewN (h : R2 w φ χ P D bn bs base v st keep L F a0 i j wr) (n : Nat) : R2 w φ χ P D bn bs base v st keep L F a0 i j (wr.drewN n) := by
  obtain ⟨Q, h0, h1, h2, h3, h4, h5⟩ := h
  exact ⟨Q, h0, h1.keep fun _ _ _ => rfl, h2.kp ((Kp.refl (fun _ => False) wr).drewN n) (fun h => h) (fun _ _ h => h), h3.drewN n, row_heap h4 fun _ _ _ => rfl, h5⟩
theorem Pk.ty {ks : List Int} (h : Pk w χ P ks) : Go.Proofs.Ytedjfbkfaioihaa.ty w P = some 85 := by
  obtain ⟨A, n, c, ha, _⟩ := h
  exact ha.ty
/-- A disk stands beside a block of another type. -/
theorem Dk.beside {Q : List (Nat × Value)} {vp : Value} (h : Dk w φ D bn bs vp Q st) (hk : ∀ x, x < w.heap.size → Go.Proofs.Ytedjfbkfaioihaa.ty w x ≠ some 85 → w1.heap[x]? = w.heap[x]?) : Dk w1 φ D bn bs vp Q st := by
  have hD := h.d.ty
  refine ⟨(hk D h.d.lt (by rw [hD]; simp)).trans h.d, h.pd, h.ne, ?_, ?_, ?_, ?_, h.inv⟩
  · exact (h.now.ty.keep fun x hx hl => hk x hl (by rw [hx.2.2]; simp)).mono fun _ h => h.1
  · exact (h.sure.ty.keep fun x hx hl => hk x hl (by rw [hx.2.2]; simp)).mono fun _ h => h.1
  · exact (h.pend.ty.keep fun x hx hl => hk x hl (by rcases hx.2 with e | e | e <;> rw [e] <;> simp)).mono fun _ h => h.1
  · exact (h.fs.ty.keep fun x hx hl => hk x hl (by rcases hx.2 with e | e <;> rw [e] <;> simp)).mono fun _ h => h.1
theorem R2.next (h : R2 w φ χ P D bn bs base v st keep L F a0 i j wr) (hP : w.heap.size ≤ P) (hn : NextPost wr χ P (keep.drop i) e w1) : e = .returned (.int .i64 (pick keep i)) ∧ R2 w φ χ P D bn bs base v st keep L F a0 (i + 1) j w1 := by
  obtain ⟨he, hp, hk⟩ := hn
  obtain ⟨Q, h0, h1, h2, h3, h4, h5⟩ := h
  rw [pick_head] at he
  rw [pick_tail] at hp
  have tP := h2.ty
  refine ⟨he, Q, h0, (h1.beside fun x hl ht => hk.block x hl (fun e => ht (by rw [e]; exact tP))).mono ?_, hp, h3.trans hk (fun x hx e => by omega), row_heap h4 fun x hx hl => hk.block x hl (fun e => ?_), h5⟩
  · rintro x (hx | hx)
    · exact .inl hx
    · exact .inr ⟨hx.1, Nat.lt_of_lt_of_le hx.2 hk.size⟩
  · have := row_ty h4 x hx
    rw [e, tP] at this
    cases this
/-- No turned file. -/
theorem R2.pass (h : R2 w φ χ P D bn bs base v st keep L F a0 i j wr) (hi : i = (crashT keep L a0 st.fs j).1) {x : En} (hx : L[j]? = some x) (hs : ¬ (fl (crashT keep L a0 st.fs j).2 x.f).s < (fl (crashT keep L a0 st.fs j).2 x.f).b.length) :
    R2 w φ χ P D bn bs base v st keep L F a0 i (j + 1) wr ∧ i = (crashT keep L a0 st.fs (j + 1)).1 := by
  have e1 : crashT keep L a0 st.fs (j + 1) = crashT keep L a0 st.fs j := by
    rw [crashT_step hx]; unfold crash1F; rw [if_neg hs]
  unfold R2
  rw [e1]
  exact ⟨h, hi⟩
theorem set_mem {α : Type} {l : List α} {i : Nat} {y x : α} (h : x ∈ l.set i y) : x ∈ l ∨ x = y := by
  rcases List.mem_or_eq_of_mem_set h with h | h
  · exact .inl h
  · exact .inr h
/-- A file is turned. -/
theorem R2.kept (Q : List (Nat × Value)) (h0 : Fq Q = F) (hφ : ∀ x, φ x → x < w.heap.size) (h1 : Dk wr (wid φ w wr) D bn bs (.slice none 0 0) Q { st with fs := (crashT keep L a0 st.fs j).2 }) (h2 : Pk wr χ P (keep.drop (i + 2))) (h3 : Kp φ w wr) (h4 : wr.ownsRow base 9 1 v L.length (L.map fun p => .string p.n)) (h5 : ∀ x ∈ (crashT keep L a0 st.fs j).2, x.b.length ≤ 1000000000)
    (hχ : ∀ x, χ x → ¬ φ x ∧ x < w.heap.size) (hi : i = (crashT keep L a0 st.fs j).1) {x : En} (hx : L[j]? = some x) {q : Nat × Value} (hq : Q[x.f]? = some q) (hs : (fl (crashT keep L a0 st.fs j).2 x.f).s < (fl (crashT keep L a0 st.fs j).2 x.f).b.length)
    (hlt : ∀ y ∈ (fl (crashT keep L a0 st.fs j).2 x.f).b, y < 256) (hb : (fl (crashT keep L a0 st.fs j).2 x.f).b.length ≤ 1000000000)
    (hat : FAt wr (wid φ w wr) q (fl (crashT keep L a0 st.fs j).2 x.f))
    (hk : KeptPost wr (wid φ w wr) q (fl (crashT keep L a0 st.fs j).2 x.f) (pick keep i) (odd (pick keep (i + 1))) e w1) :
    e = .returned (.tuple #[]) ∧ R2 w φ χ P D bn bs base v st keep L F a0 (i + 2) (j + 1) w1 ∧ i + 2 = (crashT keep L a0 st.fs (j + 1)).1 := by
  obtain ⟨he, v', hF, hown, hkp⟩ := hk
  have e1 : crashT keep L a0 st.fs (j + 1) = (i + 2, (crashT keep L a0 st.fs j).2.set x.f ⟨keptL (fl (crashT keep L a0 st.fs j).2 x.f) (pick keep i) (odd (pick keep (i + 1))), (keptL (fl (crashT keep L a0 st.fs j).2 x.f) (pick keep i) (odd (pick keep (i + 1)))).length⟩) := by
    rw [crashT_step hx]; unfold crash1F; rw [if_pos hs, ← hi]
  have tq := hat.a.ty
  have tg : ∀ g, q.2.ownBlock = some g → ty wr g = some 5 ∧ wid φ w wr g := fun g hg => by
    rcases hat.b with ⟨e, _⟩ | ⟨g', c, cur, e, hp, ha, _⟩
    · rw [e] at hg; cases hg
    · rw [e] at hg
      simp [Value.ownBlock] at hg
      subst hg
      exact ⟨ha.ty, hp⟩
  have hS : ∀ y, (y = q.1 ∨ q.2.ownBlock = some y) → (ty wr y = some 75 ∨ ty wr y = some 5) ∧ wid φ w wr y := by
    rintro y (rfl | hy)
    · exact ⟨.inl tq, hat.p⟩
    · exact ⟨.inr (tg y hy).1, (tg y hy).2⟩
  have hwl : ∀ y, wid φ w wr y → y < wr.heap.size := wid_lt hφ h3.size
  have hinv : (keptL (fl (crashT keep L a0 st.fs j).2 x.f) (pick keep i) (odd (pick keep (i + 1)))).length ≤ 1000000000 := by
    have h1 := keptL_len (k := pick keep i) (g := odd (pick keep (i + 1))) (Nat.le_of_lt hs)
    have h2 := (keptN_le (k := pick keep i) (Nat.le_of_lt hs)).2
    omega
  have hset := h1.setfile hwl hq hkp (hF.mono fun _ h => .inl h) (.inl hown) ⟨Nat.le_refl _, keptL_lt (Nat.le_of_lt hs) hlt⟩
  refine ⟨he, ⟨Q.set x.f (q.1, v'), (funext fun i => Fq_set hq i).trans h0, ?_, h2.kp hkp ?_ ?_, h3.trans hkp ?_, row_heap h4 fun y hy hl => hkp.block y hl fun e => ?_, ?_⟩, ?_⟩
  · rw [e1]
    exact hset.mono (wid_trans h3.size hkp.size)
  · intro e
    have := (hS P e).1
    rw [h2.ty] at this
    simp at this
  · intro y hy e
    have := (hS y e).2
    obtain ⟨hn, hl⟩ := hχ y hy
    rcases this with h | h
    · exact hn h
    · omega
  · intro y hl e
    rcases (hS y e).2 with h | h
    · exact h
    · omega
  · have h1 := row_ty h4 y hy
    have h2 := (hS y e).1
    rw [h1] at h2
    simp at h2
  · rw [e1]
    intro y hy
    rcases set_mem hy with hy | rfl
    · exact h5 y hy
    · exact hinv
  · rw [e1]
end
theorem pair_ne {L : List En} (h : L.Pairwise fun p q => p.nm ≠ q.nm) {x e : En} (hx : x ∈ L) (he : e ∈ L) (hne : x ≠ e) : x.nm ≠ e.nm := by
  induction L with
  | nil => cases hx
  | cons a r ih =>
    obtain ⟨n1, n2⟩ := List.pairwise_cons.1 h
    rcases List.mem_cons.1 hx with k1 | k1 <;> rcases List.mem_cons.1 he with k2 | k2
    · exact absurd (k1.trans k2.symm) hne
    · rw [k1]; exact n1 e k2
    · rw [k2]; exact fun e2 => n1 x k1 e2.symm
    · exact ih n2 k1 k2
theorem fnd_mem {L : List En} (hr : Ris L) {e : En} (he : e ∈ L) : fnd e.nm L = some e.f := by
  cases hf : fnd e.nm L with
  | none =>
    have := fnd_none.1 hf
    unfold hasp at this
    rw [List.any_eq_false] at this
    have := this e he
    simp at this
  | some j =>
    obtain ⟨_, x, hx, hn, hj⟩ := fnd_some hf
    have hxe : x = e := by
      have hp := ris_nodup hr
      by_cases h : x = e
      · exact h
      · exact absurd hn (pair_ne hp hx he h)
    rw [← hj, hxe]
/-- The file that is to be turned. -/
theorem R2.turn {w wr : World} {φ χ : Nat → Prop} {P D bn bs base : Nat} {v : Value} {st : Ds} {keep : List Int} {L : List En} {F : Nat → Nat} {a0 i j : Nat} (h : R2 w φ χ P D bn bs base v st keep L F a0 (i + 2) j wr) (hφ : ∀ x, φ x → x < w.heap.size) (hχ : ∀ x, χ x → ¬ φ x ∧ x < w.heap.size) (hi : i = (crashT keep L a0 st.fs j).1) {x : En} (hx : L[j]? = some x) (hd : st.dir = L)
    (hs : (fl (crashT keep L a0 st.fs j).2 x.f).s < (fl (crashT keep L a0 st.fs j).2 x.f).b.length) :
    ∃ q : Nat × Value, q.1 = F x.f ∧ FAt wr (wid φ w wr) q (fl (crashT keep L a0 st.fs j).2 x.f) ∧ (fl (crashT keep L a0 st.fs j).2 x.f).b.length ≤ 1000000000 ∧ (∀ y ∈ (fl (crashT keep L a0 st.fs j).2 x.f).b, y < 256) ∧
      ∀ e w1, KeptPost wr (wid φ w wr) q (fl (crashT keep L a0 st.fs j).2 x.f) (pick keep i) (odd (pick keep (i + 1))) e w1 → e = .returned (.tuple #[]) ∧ R2 w φ χ P D bn bs base v st keep L F a0 (i + 2) (j + 1) w1 ∧ i + 2 = (crashT keep L a0 st.fs (j + 1)).1 := by
  obtain ⟨Q, h0, h1, h2, h3, h4, h5⟩ := h
  have hd2 : ({ st with fs := (crashT keep L a0 st.fs j).2 } : Ds).dir = L := hd
  have hfx : fnd x.nm L = some x.f := fnd_mem (by have := h1.inv.risd; rwa [hd2] at this) (List.mem_of_getElem? hx)
  obtain ⟨q, hq, hFq, hqx, hat, hrng⟩ := h1.file (n := x.n.data.toList) (j := x.f) (by rw [hd2]; exact hfx)
  have hb := h5 _ (List.mem_of_getElem? hqx)
  exact ⟨q, by rw [← hFq, h0], hat, hb, hrng.2, fun e w1 hk => R2.kept Q h0 hφ h1 h2 h3 h4 h5 hχ hi hx hq hs hrng.2 hb hat hk⟩
/-- Behind the acts. -/
theorem crash_mid {w W0 wr w1 w2 : World} {φ χ : Nat → Prop} {D bn bs : Nat} {vp : Value} {Q : List (Nat × Value)} {st : Ds} {keep : List Int} (hφ : ∀ x, φ x → x < w.heap.size) (hχ : ∀ x, χ x → ¬ φ x ∧ x < w.heap.size)
    (hk0 : Dk W0 φ D bn bs vp Q st) (hb0 : Below w.heap.size w W0) (hP : w.heap.size < W0.heap.size) (hR : R1 W0 φ χ w.heap.size bs (Fq Q) st keep st.acts.length st.acts.length wr)
    (hm1 : w1.ownsMap Try.prog 9 plr wr.heap.size (crashA keep 0 st.acts st.sure).length (dat (Fq Q) (crashA keep 0 st.acts st.sure))) (hb1 : Below wr.heap.size wr w1)
    (h2 : w2 = (w1.setCell ⟨D, 3, none⟩ (.slice none 0 0)).setCell ⟨D, 1, none⟩ (.map (some wr.heap.size))) :
    Dk w2 (wid φ w w2) D wr.heap.size bs (.slice none 0 0) Q (crash1 st keep) ∧ Pk w2 χ w.heap.size (keep.drop st.acts.length) ∧ Kp φ w w2 := by
  have hDl := hφ D hk0.pd
  have hbl := hφ bs hk0.sure.p
  have hsz := hR.k.size
  have hbt := hk0.sure.ty.p.2.2
  have hDt := hk0.d.ty
  have hPt := hR.p.ty
  have hDb : D ≠ bs := fun e => by rw [← e, hDt] at hbt; cases hbt
  have k2 : Kp (fun x => x = D) w1 w2 := by rw [h2]; exact (Kp.set (fun x => x = D) w1 D 3 _ rfl).trans (Kp.set (fun x => x = D) _ D 1 _ rfl) (fun _ _ h => h)
  have hmD : wr.heap.size ≠ D := by omega
  have s1 := hb1.size
  have s2 := k2.size
  have kk : ∀ x, x < W0.heap.size → x ≠ bs → x ≠ w.heap.size → x ≠ D → w2.heap[x]? = W0.heap[x]? := fun x hx h1 h3 h4 =>
    (k2.block x (by omega) h4).trans ((hb1.block x (by omega)).trans (hR.k.block x hx (by rintro (e | e); exact h1 e; exact h3 e)))
  have hL := hR.m
  rw [List.take_length] at hL
  refine ⟨⟨?_, .inl hk0.pd, by omega, ?_, ?_, ?_, ?_, inv_crash1 hk0.inv keep⟩, ?_, ?_⟩
  · rw [h2]
    have hA := (hk0.d.kp hR.k (by rintro (e | e) <;> omega)).below hb1 (by omega)
    exact (hA.set 3 (.slice none 0 0)).set 1 (.map (some wr.heap.size))
  · have hl := hm1.lt
    exact ⟨.inr ⟨by omega, by omega⟩, own_heap hm1 (k2.block wr.heap.size hl hmD)⟩
  · exact ⟨.inl hk0.sure.p, own_heap hL.m ((k2.block bs (by omega) (fun e => hDb e.symm)).trans (hb1.block bs (by omega)))⟩
  · exact ⟨[], World.ownsRow_nil _ _ _ _, fun x hx => by (cases hx), fun i v a hv _ => by (simp at hv)⟩
  · refine (hk0.fs.ty.keep fun x hx hl => kk x hl ?_ ?_ ?_).mono fun _ h => .inl h.1
    · rintro rfl
      rw [hbt] at hx; simp at hx
    · have := hφ x hx.1; omega
    · rintro rfl
      rw [hDt] at hx; simp at hx
  · have p1 := hR.p.kp (S := fun x => x = D) (Kp.none_of_below hb1) (by omega) (fun x hx e => (hχ x hx).1 (by rw [e]; exact hk0.pd))
    exact p1.kp k2 (by omega) (fun x hx e => (hχ x hx).1 (by rw [e]; exact hk0.pd))
  · refine ((Kp.none_of_below (S := φ) hb0).trans (hR.k.trans (Kp.none_of_below (S := fun x => x = bs ∨ x = w.heap.size) hb1) (fun _ _ h => h)) ?_).trans k2 ?_
    · rintro x hx (rfl | rfl)
      · exact hk0.sure.p
      · omega
    · rintro x _ rfl
      exact hk0.pd
theorem crash_loop {w w2 w3 : World} {φ χ : Nat → Prop} {D bn bs : Nat} {Q : List (Nat × Value)} {st : Ds} {keep : List Int} {v : Value}
    (h : Dk w2 (wid φ w w2) D bn bs (.slice none 0 0) Q (crash1 st keep) ∧ Pk w2 χ w.heap.size (keep.drop st.acts.length) ∧ Kp φ w w2) (hb : Below w2.heap.size w2 w3)
    (hrow : w3.ownsRow (w2.heap.size + 1) 9 1 v (crashA keep 0 st.acts st.sure).length ((crashA keep 0 st.acts st.sure).map fun p => .string p.n)) (hf : ∀ x ∈ st.fs, x.b.length ≤ 1000000000) :
    R2 w φ χ w.heap.size D bn bs (w2.heap.size + 1) v (crash1 st keep) keep (crashA keep 0 st.acts st.sure) (Fq Q) st.acts.length st.acts.length 0 w3 := by
  obtain ⟨h1, h2, h3⟩ := h
  refine ⟨Q, rfl, (h1.below hb (Nat.le_refl _)).mono ?_, h2.kp (Kp.none_of_below (S := fun _ => False) hb) (fun h => h) (fun _ _ h => h), h3.trans (Kp.none_of_below (S := fun _ => False) hb) (fun _ _ h => h.elim), hrow, hf⟩
  rintro x (hx | hx)
  · exact .inl hx
  · exact .inr ⟨hx.1, Nat.lt_of_lt_of_le hx.2 hb.size⟩
/-- The end of a crash. -/
theorem crash_end {w wr w1 : World} {φ χ : Nat → Prop} {D bn bs base i : Nat} {F : Nat → Nat} {st : Ds} {keep : List Int} {v : Value} (hφ : ∀ x, φ x → x < w.heap.size)
    (h : R2 w φ χ w.heap.size D bn bs base v (crash1 st keep) keep (crashA keep 0 st.acts st.sure) F st.acts.length i (crashA keep 0 st.acts st.sure).length wr)
    (h1 : Kp (fun x => x = D) wr w1) (hA : ∀ cs, Arr wr D 64 cs → Arr w1 D 64 (((cs.setIfInBounds 4 (.bool false)).setIfInBounds 5 (.int .i64 (-1))).setIfInBounds 6 (.int .i64 (-1)))) :
    DK w1 (wid φ w w1) D (crash st keep) ∧ Kp φ w w1 := by
  obtain ⟨Q, _, hk, _, h3, _, _⟩ := h
  rw [crashT_end] at hk
  have hc : Dk w1 (wid φ w wr) D bn bs (.slice none 0 0) Q (crash st keep) := by
    refine hk.cells (st' := crash st keep) (hA _ hk.d) (fun x hx _ hl => h1.block x hl hx) rfl rfl rfl rfl ?_
    have := hk.inv
    exact ⟨this.dir, this.sure, this.acts, this.risd, this.riss, this.one, this.ones, this.fs, this.quota, by (show (-1 : Int) ≤ -1 ∧ (-1 : Int) ≤ 9223372036854775807; omega), by (show (-1 : Int) ≤ -1 ∧ (-1 : Int) ≤ 9223372036854775807; omega), this.steps⟩
  have k : Kp φ w w1 := h3.trans h1 fun x hx e => by
    have := hk.pd
    rw [e] at hx ⊢
    rcases this with h | h
    · exact h
    · omega
  refine ⟨⟨wid_lt hφ k.size, bn, bs, _, Q, hc.mono ?_⟩, k⟩
  rintro x (hx | hx)
  · exact .inl hx
  · exact .inr ⟨hx.1, Nat.lt_of_lt_of_le hx.2 h1.size⟩
end Go.Proofs.Ytedjfbkfaioihaa
