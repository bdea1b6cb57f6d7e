/- The disk in memory: its cells, its two directories, what is pending, its files. No conditions. -/
import Derived.Test.YtedjfbkfaioihaaDm
import Derived.Test.YtedjfbkfaioihaaBts
import Derived.StringKeys
namespace Go.Proofs.Ytedjfbkfaioihaa
open Go.RowKit Go.Maps

/-- A file at q.1, its bytes' slice q.2. -/
structure FAt (w : World) (φ : Nat → Prop) (q : Nat × Value) (x : Fl) : Prop where
  a : Arr w q.1 75 #[q.2, .int .i64 (x.s : Nat)]
  p : φ q.1
  b : Bts w φ q.2 x.b
/-- All files. -/
structure Fis (w : World) (φ : Nat → Prop) (Q : List (Nat × Value)) (fs : List Fl) : Prop where
  len : Q.length = fs.length
  at_ : ∀ (j : Nat) q x, Q[j]? = some q → fs[j]? = some x → FAt w φ q x
  ne : ∀ (i j : Nat) q r, Q[i]? = some q → Q[j]? = some r → i ≠ j → q.1 ≠ r.1 ∧ ∀ g, q.2.ownBlock = some g → r.2.ownBlock ≠ some g
/-- Where the j-th file lies. -/
def Fq (Q : List (Nat × Value)) (j : Nat) : Nat := (Q.getD j (0, undef)).1
/-- A directory in the map's block b. -/
structure Mp (w : World) (φ : Nat → Prop) (b : Nat) (F : Nat → Nat) (L : List En) : Prop where
  p : φ b
  m : w.ownsMap Try.prog 9 plr b L.length (dat F L)
/-- An act as a function value. -/
def AAt (w : World) (φ : Nat → Prop) (F : Nat → Nat) (v : Value) (a : Ac) : Prop :=
  (a.k = 0 ∧ ∃ p q, v = .func (.func 82) #[] #[.pointer (some ⟨p, 0, none⟩), .pointer (some ⟨q, 0, none⟩)] ∧ φ p ∧ φ q ∧ Arr w p 68 #[plv (F a.f)] ∧ Arr w q 9 #[.string a.n]) ∨
  (a.k = 1 ∧ ∃ p q, v = .func (.func 88) #[] #[.pointer (some ⟨p, 0, none⟩), .pointer (some ⟨q, 0, none⟩)] ∧ φ p ∧ φ q ∧ Arr w p 9 #[.string a.n] ∧ Arr w q 9 #[.string a.m]) ∨
  (a.k = 2 ∧ ∃ p, v = .func (.func 83) #[] #[.pointer (some ⟨p, 0, none⟩)] ∧ φ p ∧ Arr w p 9 #[.string a.n])
/-- What is pending. -/
def Pn (w : World) (φ : Nat → Prop) (F : Nat → Nat) (vp : Value) (acts : List Ac) : Prop :=
  ∃ cs : List Value, w.ownsRow 0 72 1 vp acts.length cs ∧ (∀ x, vp.ownBlock = some x → φ x) ∧ ∀ (i : Nat) v a, cs[i]? = some v → acts[i]? = some a → AAt w φ F v a
/-- The disk's cells. -/
def dcs (bn bs : Nat) (vp : Value) (st : Ds) : Array Value := #[.int .i64 st.quota, .map (some bn), .map (some bs), vp, .bool st.off, .int .i64 st.fuse, .int .i64 st.fault, .int .i64 st.steps]
structure Dk (w : World) (φ : Nat → Prop) (D bn bs : Nat) (vp : Value) (Q : List (Nat × Value)) (st : Ds) : Prop where
  d : Arr w D 64 (dcs bn bs vp st)
  pd : φ D
  ne : bn ≠ bs
  now : Mp w φ bn (Fq Q) st.dir
  sure : Mp w φ bs (Fq Q) st.sure
  pend : Pn w φ (Fq Q) vp st.acts
  fs : Fis w φ Q st.fs
  inv : Inv st
/-- A disk at D, of blocks of which φ holds. -/
def DK (w : World) (φ : Nat → Prop) (D : Nat) (st : Ds) : Prop := (∀ x, φ x → x < w.heap.size) ∧ ∃ bn bs vp Q, Dk w φ D bn bs vp Q st
/-- φ, and what was made between two worlds. -/
def wid (φ : Nat → Prop) (w w' : World) (x : Nat) : Prop := φ x ∨ (w.heap.size ≤ x ∧ x < w'.heap.size)

theorem own_heap {w w' : World} {b n : Nat} {D : DataW Unit} (h : w.ownsMap Try.prog 9 plr b n D) (e : w'.heap[b]? = w.heap[b]?) : w'.ownsMap Try.prog 9 plr b n D := by
  obtain ⟨es, clock, hb, r⟩ := h
  exact ⟨es, clock, e.trans hb, r⟩
theorem own_tight {w : World} {F : Nat → Nat} {b n : Nat} {L : List En} (h : w.ownsMap Try.prog 9 plr b n (dat F L)) : w.ownsMap Try.prog 9 plr b L.length (dat F L) := by
  obtain ⟨es, clock, hb, Ft, _, hD⟩ := h
  refine ⟨es, clock, hb, Ft, ?_, hD⟩
  have h1 : Maps.size (dat F L) = es.size := by rw [hD, Maps.size_eq, length_sorted]; simp
  rw [dat_size] at h1
  omega
theorem row_heap {w w' : World} {base n : Nat} {e : TypeId} {sz : Nat} {v : Value} {xs : List Value} (h : w.ownsRow base e sz v n xs) (hk : ∀ x, v.ownBlock = some x → x < w.heap.size → w'.heap[x]? = w.heap[x]?) : w'.ownsRow base e sz v n xs := by
  refine ⟨h.1, ?_⟩
  rcases h.2 with h | ⟨g, cap, cur, rfl, hb, hg, r⟩
  · exact .inl h
  · exact .inr ⟨g, cap, cur, rfl, hb, (hk g rfl (Array.getElem?_eq_some_iff.1 hg).1).trans hg, r⟩

section
variable {w w' : World} {φ ψ : Nat → Prop} {D bn bs b : Nat} {vp v : Value} {Q : List (Nat × Value)} {q : Nat × Value} {x : Fl} {fs : List Fl} {st : Ds} {F : Nat → Nat} {L : List En} {acts : List Ac} {a : Ac}
theorem FAt.keep (h : FAt w φ q x) (hk : ∀ x, φ x → x < w.heap.size → w'.heap[x]? = w.heap[x]?) : FAt w' φ q x := ⟨(hk _ h.p h.a.lt).trans h.a, h.p, h.b.keep hk⟩
theorem FAt.mono (h : FAt w φ q x) (hm : ∀ x, φ x → ψ x) : FAt w ψ q x := ⟨h.a, hm _ h.p, h.b.mono hm⟩
theorem Fis.keep (h : Fis w φ Q fs) (hk : ∀ x, φ x → x < w.heap.size → w'.heap[x]? = w.heap[x]?) : Fis w' φ Q fs := ⟨h.len, fun j q x h1 h2 => (h.at_ j q x h1 h2).keep hk, h.ne⟩
theorem Fis.mono (h : Fis w φ Q fs) (hm : ∀ x, φ x → ψ x) : Fis w ψ Q fs := ⟨h.len, fun j q x h1 h2 => (h.at_ j q x h1 h2).mono hm, h.ne⟩
theorem Mp.lt (h : Mp w φ b F L) : b < w.heap.size := h.m.lt
theorem Mp.keep (h : Mp w φ b F L) (hk : ∀ x, φ x → x < w.heap.size → w'.heap[x]? = w.heap[x]?) : Mp w' φ b F L := ⟨h.p, own_heap h.m (hk _ h.p h.lt)⟩
theorem Mp.mono (h : Mp w φ b F L) (hm : ∀ x, φ x → ψ x) : Mp w ψ b F L := ⟨hm _ h.p, h.m⟩
theorem AAt.keep (h : AAt w φ F v a) (hk : ∀ x, φ x → x < w.heap.size → w'.heap[x]? = w.heap[x]?) : AAt w' φ F v a := by
  rcases h with ⟨h0, p, q, h1, h2, h3, h4, h5⟩ | ⟨h0, p, q, h1, h2, h3, h4, h5⟩ | ⟨h0, p, h1, h2, h3⟩
  · exact .inl ⟨h0, p, q, h1, h2, h3, (hk _ h2 h4.lt).trans h4, (hk _ h3 h5.lt).trans h5⟩
  · exact .inr (.inl ⟨h0, p, q, h1, h2, h3, (hk _ h2 h4.lt).trans h4, (hk _ h3 h5.lt).trans h5⟩)
  · exact .inr (.inr ⟨h0, p, h1, h2, (hk _ h2 h3.lt).trans h3⟩)
theorem AAt.mono (h : AAt w φ F v a) (hm : ∀ x, φ x → ψ x) : AAt w ψ F v a := by
  rcases h with ⟨h0, p, q, h1, h2, h3, h4, h5⟩ | ⟨h0, p, q, h1, h2, h3, h4, h5⟩ | ⟨h0, p, h1, h2, h3⟩
  · exact .inl ⟨h0, p, q, h1, hm _ h2, hm _ h3, h4, h5⟩
  · exact .inr (.inl ⟨h0, p, q, h1, hm _ h2, hm _ h3, h4, h5⟩)
  · exact .inr (.inr ⟨h0, p, h1, hm _ h2, h3⟩)
theorem Pn.keep (h : Pn w φ F vp acts) (hk : ∀ x, φ x → x < w.heap.size → w'.heap[x]? = w.heap[x]?) : Pn w' φ F vp acts := by
  obtain ⟨cs, h1, h2, h3⟩ := h
  exact ⟨cs, row_heap h1 fun x hx hl => hk x (h2 x hx) hl, h2, fun i v a hv ha => (h3 i v a hv ha).keep hk⟩
theorem Pn.mono (h : Pn w φ F vp acts) (hm : ∀ x, φ x → ψ x) : Pn w ψ F vp acts := by
  obtain ⟨cs, h1, h2, h3⟩ := h
  exact ⟨cs, h1, fun x hx => hm x (h2 x hx), fun i v a hv ha => (h3 i v a hv ha).mono hm⟩
theorem Dk.keep (h : Dk w φ D bn bs vp Q st) (hk : ∀ x, φ x → x < w.heap.size → w'.heap[x]? = w.heap[x]?) : Dk w' φ D bn bs vp Q st :=
  ⟨(hk _ h.pd h.d.lt).trans h.d, h.pd, h.ne, h.now.keep hk, h.sure.keep hk, h.pend.keep hk, h.fs.keep hk, h.inv⟩
theorem Dk.mono (h : Dk w φ D bn bs vp Q st) (hm : ∀ x, φ x → ψ x) : Dk w ψ D bn bs vp Q st :=
  ⟨h.d, hm _ h.pd, h.ne, h.now.mono hm, h.sure.mono hm, h.pend.mono hm, h.fs.mono hm, h.inv⟩
theorem Dk.below {B : Nat} (h : Dk w φ D bn bs vp Q st) (k : Below B w w') (hB : w.heap.size ≤ B) : Dk w' φ D bn bs vp Q st := h.keep fun x _ hx => k.block x (by omega)
theorem Dk.drew (h : Dk w φ D bn bs vp Q st) : Dk w.drew φ D bn bs vp Q st := h.keep fun _ _ _ => rfl
theorem DK.keep (h : DK w φ D st) (hs : w.heap.size ≤ w'.heap.size) (hk : ∀ x, φ x → x < w.heap.size → w'.heap[x]? = w.heap[x]?) : DK w' φ D st := by
  obtain ⟨h0, bn, bs, vp, Q, h⟩ := h
  exact ⟨fun x hx => Nat.lt_of_lt_of_le (h0 x hx) hs, bn, bs, vp, Q, h.keep hk⟩
theorem DK.mono (h : DK w φ D st) (hm : ∀ x, φ x → ψ x) (hb : ∀ x, ψ x → x < w.heap.size) : DK w ψ D st := by
  obtain ⟨_, bn, bs, vp, Q, h⟩ := h
  exact ⟨hb, bn, bs, vp, Q, h.mono hm⟩
theorem DK.below {B : Nat} (h : DK w φ D st) (k : Below B w w') (hB : w.heap.size ≤ B) : DK w' φ D st := h.keep k.size fun x _ hx => k.block x (by omega)
theorem DK.kp {S : Nat → Prop} (h : DK w φ D st) (k : Kp S w w') (hS : ∀ x, φ x → ¬ S x) : DK w' φ D st := h.keep k.size fun x hx hl => k.block x hl (hS x hx)
theorem DK.wide (h : DK w φ D st) (k : Below w.heap.size w w') : DK w' (wid φ w w') D st := (h.below k (Nat.le_refl _)).mono (fun _ h => .inl h) (fun x hx => by
  rcases hx with hx | hx
  · exact Nat.lt_of_lt_of_le (h.1 x hx) k.size
  · exact hx.2)
theorem DK.lt (h : DK w φ D st) : φ D ∧ D < w.heap.size := by
  obtain ⟨_, bn, bs, vp, Q, h⟩ := h
  exact ⟨h.pd, h.d.lt⟩
theorem wid_lt (h : ∀ x, φ x → x < w.heap.size) (hs : w.heap.size ≤ w'.heap.size) : ∀ x, wid φ w w' x → x < w'.heap.size := by
  rintro x (hx | hx)
  · exact Nat.lt_of_lt_of_le (h x hx) hs
  · exact hx.2
theorem wid_trans {w1 : World} (h1 : w.heap.size ≤ w1.heap.size) (h2 : w1.heap.size ≤ w'.heap.size) : ∀ x, wid (wid φ w w1) w1 w' x → wid φ w w' x := by
  rintro x ((h | h) | h)
  · exact .inl h
  · exact .inr ⟨h.1, Nat.lt_of_lt_of_le h.2 h2⟩
  · exact .inr ⟨Nat.le_trans h1 h.1, h.2⟩
theorem wid_late {w1 : World} (h1 : w.heap.size ≤ w1.heap.size) : ∀ x, wid φ w1 w' x → wid φ w w' x := by
  rintro x (h | h)
  · exact .inl h
  · exact .inr ⟨Nat.le_trans h1 h.1, h.2⟩
theorem DK.inv (h : DK w φ D st) : Inv st := by
  obtain ⟨_, bn, bs, vp, Q, h⟩ := h
  exact h.inv
end

/-- The type of a block's cells. -/
def ty (w : World) (x : Nat) : Option TypeId := match w.heap[x]? with | some (.cells _ t _) => some t | _ => none
theorem Arr.ty {w : World} {g : Nat} {t : TypeId} {cs : Array Value} (h : Arr w g t cs) : Go.Proofs.Ytedjfbkfaioihaa.ty w g = some t := by
  unfold Arr at h
  unfold Go.Proofs.Ytedjfbkfaioihaa.ty
  rw [h]
section
variable {w w' : World} {φ ψ : Nat → Prop} {D bn bs b : Nat} {vp v : Value} {Q : List (Nat × Value)} {q : Nat × Value} {x : Fl} {fs : List Fl} {st st' : Ds} {F F' : Nat → Nat} {L : List En} {acts : List Ac} {a : Ac} {l : List Nat}
theorem Bts.ty (h : Bts w φ v l) : Bts w (fun x => φ x ∧ Go.Proofs.Ytedjfbkfaioihaa.ty w x = some 5) v l := by
  rcases h with h | ⟨g, c, cur, h1, h2, h3, h4⟩
  · exact .inl h
  · exact .inr ⟨g, c, cur, h1, ⟨h2, h3.ty⟩, h3, h4⟩
theorem FAt.ty (h : FAt w φ q x) : FAt w (fun x => φ x ∧ (Go.Proofs.Ytedjfbkfaioihaa.ty w x = some 5 ∨ Go.Proofs.Ytedjfbkfaioihaa.ty w x = some 75)) q x :=
  ⟨h.a, ⟨h.p, .inr h.a.ty⟩, h.b.ty.mono fun _ h => ⟨h.1, .inl h.2⟩⟩
theorem Fis.ty (h : Fis w φ Q fs) : Fis w (fun x => φ x ∧ (Go.Proofs.Ytedjfbkfaioihaa.ty w x = some 5 ∨ Go.Proofs.Ytedjfbkfaioihaa.ty w x = some 75)) Q fs := ⟨h.len, fun j q x h1 h2 => (h.at_ j q x h1 h2).ty, h.ne⟩
theorem Mp.ty (h : Mp w φ b F L) : Mp w (fun x => φ x ∧ x = b ∧ Go.Proofs.Ytedjfbkfaioihaa.ty w x = none) b F L := by
  refine ⟨⟨h.p, rfl, ?_⟩, h.m⟩
  obtain ⟨es, clock, hb, _⟩ := h.m
  unfold Go.Proofs.Ytedjfbkfaioihaa.ty
  rw [hb]
theorem AAt.ty (h : AAt w φ F v a) : AAt w (fun x => φ x ∧ (Go.Proofs.Ytedjfbkfaioihaa.ty w x = some 68 ∨ Go.Proofs.Ytedjfbkfaioihaa.ty w x = some 9)) F v a := by
  rcases h with ⟨h0, p, q, h1, h2, h3, h4, h5⟩ | ⟨h0, p, q, h1, h2, h3, h4, h5⟩ | ⟨h0, p, h1, h2, h3⟩
  · exact .inl ⟨h0, p, q, h1, ⟨h2, .inl h4.ty⟩, ⟨h3, .inr h5.ty⟩, h4, h5⟩
  · exact .inr (.inl ⟨h0, p, q, h1, ⟨h2, .inr h4.ty⟩, ⟨h3, .inr h5.ty⟩, h4, h5⟩)
  · exact .inr (.inr ⟨h0, p, h1, ⟨h2, .inr h3.ty⟩, h3⟩)
theorem row_ty {base n : Nat} {e : TypeId} {sz : Nat} {xs : List Value} (h : w.ownsRow base e sz v n xs) : ∀ x, v.ownBlock = some x → Go.Proofs.Ytedjfbkfaioihaa.ty w x = some e := by
  intro x hx
  rcases h.2 with ⟨rfl, _⟩ | ⟨g, cap, cur, rfl, hb, hg, r⟩
  · cases hx
  · simp [Value.ownBlock] at hx
    subst hx
    exact Arr.ty (w := w) (g := g) (cs := cur) hg
theorem Pn.ty (h : Pn w φ F vp acts) : Pn w (fun x => φ x ∧ (Go.Proofs.Ytedjfbkfaioihaa.ty w x = some 72 ∨ Go.Proofs.Ytedjfbkfaioihaa.ty w x = some 68 ∨ Go.Proofs.Ytedjfbkfaioihaa.ty w x = some 9)) F vp acts := by
  obtain ⟨cs, h1, h2, h3⟩ := h
  exact ⟨cs, h1, fun x hx => ⟨h2 x hx, .inl (row_ty h1 x hx)⟩, fun i v a hv ha => (h3 i v a hv ha).ty.mono fun _ h => ⟨h.1, .inr h.2⟩⟩
/-- The disk's own cells have turned, and nothing else. -/
theorem Dk.cells (h : Dk w φ D bn bs vp Q st) (hA : Arr w' D 64 (dcs bn bs vp st')) (hk : ∀ x, x ≠ D → φ x → x < w.heap.size → w'.heap[x]? = w.heap[x]?) (e1 : st'.dir = st.dir) (e2 : st'.sure = st.sure) (e3 : st'.acts = st.acts) (e4 : st'.fs = st.fs) (hi : Inv st') :
    Dk w' φ D bn bs vp Q st' := by
  have hD := h.d.ty
  have ne : ∀ x, Go.Proofs.Ytedjfbkfaioihaa.ty w x ≠ some 64 → x ≠ D := fun x hx e => hx (by rw [e]; exact hD)
  refine ⟨hA, h.pd, h.ne, ?_, ?_, ?_, ?_, hi⟩
  · rw [e1]; exact (h.now.ty.keep fun x hx hl => hk x (ne x (by rw [hx.2.2]; simp)) hx.1 hl).mono fun _ h => h.1
  · rw [e2]; exact (h.sure.ty.keep fun x hx hl => hk x (ne x (by rw [hx.2.2]; simp)) hx.1 hl).mono fun _ h => h.1
  · rw [e3]; exact (h.pend.ty.keep fun x hx hl => hk x (ne x (by rcases hx.2 with e | e | e <;> rw [e] <;> simp)) hx.1 hl).mono fun _ h => h.1
  · rw [e4]; exact (h.fs.ty.keep fun x hx hl => hk x (ne x (by rcases hx.2 with e | e <;> rw [e] <;> simp)) hx.1 hl).mono fun _ h => h.1
end

theorem key_str (s : ByteArray) (hs : s.size ≤ maxLen) : keyOf Try.prog 9 (.string s) = some (.string s.data.toList) := Go.WideMaps.keyOf_string_mk Try.underlying9 hs
/-- What a look-up hands out. -/
def lkv (F : Nat → Nat) (n : List UInt8) (L : List En) : Value := match fnd n L with | some j => plv (F j) | none => .pointer none
theorem lk_at {F : Nat → Nat} {n : List UInt8} {L : List En} {v : Value} {ps : List MemPlace} (h : plr v = some ((dat F L).atKey (.string n) (.lit (.int .i64 (-1))), ps)) : v = lkv F n L := by
  rw [dat_at] at h
  unfold lkv fnd
  cases hf : L.find? (fun q => q.nm == n) with
  | none => rw [hf] at h; exact plr_none h
  | some e => rw [hf] at h; exact plr_inv h
/-- 'v, ok := m[k]'. -/
theorem look_ok2 {w : World} {b n : Nat} {F : Nat → Nat} {L : List En} (h : w.ownsMap Try.prog 9 plr b n (dat F L)) (s : ByteArray) (hs : s.size ≤ maxLen) :
    (Instr.lookup 61 (.map (some b)) (.string s) true).run Try.prog w = .ok (.tuple #[lkv F s.data.toList L, .bool (hasp s.data.toList L)]) w := by
  obtain ⟨v, ps, hrun, hv⟩ := h.look_ok (string_keyed Try.underlying9) Try.underlying61 (Try.zeroValue68 w) plr_zero (key_str s hs)
  rw [lk_at hv, dat_has] at hrun
  exact hrun
/-- 'm[k]'. -/
theorem look_2 {w : World} {b n : Nat} {F : Nat → Nat} {L : List En} (h : w.ownsMap Try.prog 9 plr b n (dat F L)) (s : ByteArray) (hs : s.size ≤ maxLen) :
    (Instr.lookup 61 (.map (some b)) (.string s) false).run Try.prog w = .ok (lkv F s.data.toList L) w := by
  obtain ⟨v, ps, hrun, hv⟩ := h.lookup (string_keyed Try.underlying9) Try.underlying61 (Try.zeroValue68 w) plr_zero (key_str s hs)
  rw [lk_at hv] at hrun
  exact hrun
end Go.Proofs.Ytedjfbkfaioihaa
