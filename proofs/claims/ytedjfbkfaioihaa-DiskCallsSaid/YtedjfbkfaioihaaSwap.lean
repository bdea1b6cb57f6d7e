/- A file that is written aside, synced and given its name: the disk, step by step. Conditions: at most 3000 bytes each. -/
import Derived.Test.YtedjfbkfaioihaaTwo
namespace Go.Proofs.Ytedjfbkfaioihaa
open Go.RowKit Go.Shelf Go.Maps

def nN : ByteArray := ⟨#[110, 101, 119]⟩
/-- The disk behind so many of the steps. -/
def sw (a b : List Nat) (j : Nat) (off : Bool) (fu k : Int) : Ds :=
  match j with
  | 0 => ⟨20000, [⟨a, a.length⟩], [⟨nA, 0⟩], [⟨nA, 0⟩], [], off, fu, -1, k⟩
  | 1 => ⟨20000, [⟨a, a.length⟩, ⟨[], 0⟩], [⟨nA, 0⟩, ⟨nN, 1⟩], [⟨nA, 0⟩], [⟨0, nN, noname, 1⟩], off, fu, -1, k⟩
  | 2 => ⟨20000, [⟨a, a.length⟩, ⟨b, 0⟩], [⟨nA, 0⟩, ⟨nN, 1⟩], [⟨nA, 0⟩], [⟨0, nN, noname, 1⟩], off, fu, -1, k⟩
  | 3 => ⟨20000, [⟨a, a.length⟩, ⟨b, b.length⟩], [⟨nA, 0⟩, ⟨nN, 1⟩], [⟨nA, 0⟩], [⟨0, nN, noname, 1⟩], off, fu, -1, k⟩
  | 4 => ⟨20000, [⟨a, a.length⟩, ⟨b, b.length⟩], [⟨nA, 1⟩], [⟨nA, 0⟩], [⟨0, nN, noname, 1⟩, ⟨1, nN, nA, 1⟩], off, fu, -1, k⟩
  | _ => ⟨20000, [⟨a, a.length⟩, ⟨b, b.length⟩], [⟨nA, 1⟩], [⟨nA, 1⟩], [], off, fu, -1, k⟩
theorem nx_off {st : Ds} (h : st.off = true) (k : Nat) (n m : ByteArray) (b : List Nat) : nx st k n m b = st ∧ ans st k n m b = 12 := by
  unfold nx ans stepS stepE
  rw [if_pos h, if_pos h]
  exact ⟨rfl, rfl⟩
theorem nx_fuse {st : Ds} (h : st.off = false) (hf : st.fuse = 0) (k : Nat) (n m : ByteArray) (b : List Nat) : nx st k n m b = { st with off := true } ∧ ans st k n m b = 12 := by
  unfold nx ans stepS stepE
  have e1 : ¬ st.off = true := by rw [h]; decide
  refine ⟨?_, ?_⟩
  · rw [if_neg e1, if_pos hf]
  · rw [if_neg e1, if_pos hf]
theorem nx_ok {st : Ds} (h : st.off = false) (hf : st.fuse ≠ 0) {k : Nat} {n m : ByteArray} {b : List Nat} (ho : ownE st k n m b = 0) (ha : st.fault = -1) : nx st k n m b = { doS st k n m b with off := false, steps := st.steps + 1, fuse := less st.fuse, fault := -1 } ∧ ans st k n m b = 0 := by
  unfold nx ans stepS stepE
  have e1 : ¬ st.off = true := by rw [h]; decide
  have e2 : ¬ st.fault = 0 := by rw [ha]; decide
  have e3 : ¬ (0 : Int) ≠ 0 := by decide
  rw [ho]
  refine ⟨?_, ?_⟩
  · rw [if_neg e1, if_neg hf, if_neg e3, if_neg e2, ha]
    rfl
  · rw [if_neg e1, if_neg hf, if_neg e3, if_neg e2]
/-- The steps. -/
inductive Sp (b : List Nat) : Nat → Nat → ByteArray → ByteArray → List Nat → Prop
  | s0 : Sp b 0 0 nN noname []
  | s1 : Sp b 1 1 nN noname b
  | s2 : Sp b 2 2 nN noname []
  | s3 : Sp b 3 3 nN nA []
  | s4 : Sp b 4 5 noname noname []
theorem sw_own {a b : List Nat} (ha : a.length ≤ 3000) (hb : b.length ≤ 3000) {j t : Nat} {n m : ByteArray} {l : List Nat} (hs : Sp b j t n m l) (off : Bool) (fu k : Int) : ownE (sw a b j off fu k) t n m l = 0 := by
  cases hs
  · rfl
  · have e1 : fnd nN.data.toList (sw a b 1 off fu k).dir = some 1 := rfl
    have e2 : (fl (sw a b 1 off fu k).fs 1).b.length = 0 := rfl
    have e3 : usedL (sw a b 1 off fu k).fs (sw a b 1 off fu k).dir = a.length := by
      show ([a.length, 0] : List Nat).sum = _
      simp
    have e4 : (sw a b 1 off fu k).quota = 20000 := rfl
    unfold ownE
    simp only [e1, e2, e3, e4]
    rw [if_neg (by omega), if_neg (by omega)]
  · rfl
  · rfl
  · rfl
theorem sw_do {a b : List Nat} {j t : Nat} {n m : ByteArray} {l : List Nat} (hs : Sp b j t n m l) (fu fu' k k' : Int) : { doS (sw a b j false fu k) t n m l with off := false, steps := k', fuse := fu', fault := -1 } = sw a b (j + 1) false fu' k' := by
  cases hs <;> rfl
/-- Where the steps may be. -/
structure SwP (w0 w : World) (D : Nat) (a b : List Nat) (j i : Nat) (off : Bool) : Prop where
  at_ : ∃ fu k : Int, At w0 w D (sw a b i off fu k) ∧ k ≤ 4 + j
  le : i ≤ j
  on : off = false → i = j
theorem sw_off (a b : List Nat) (i : Nat) (off : Bool) (fu k : Int) : (sw a b i off fu k).off = off ∧ (sw a b i off fu k).fuse = fu ∧ (sw a b i off fu k).fault = -1 ∧ (sw a b i off fu k).steps = k := by
  unfold sw
  split <;> exact ⟨rfl, rfl, rfl, rfl⟩
theorem sw_true (a b : List Nat) (i : Nat) (fu k : Int) : { sw a b i false fu k with off := true } = sw a b i true fu k := by
  unfold sw
  split <;> rfl
theorem sw_lens (a b : List Nat) (i : Nat) (off : Bool) (fu k : Int) : (sw a b i off fu k).acts.length ≤ 2 ∧ (sw a b i off fu k).dir.length ≤ 2 ∧ (sw a b i off fu k).sure.length ≤ 1 := by
  unfold sw
  split <;> exact ⟨Nat.le_of_ble_eq_true rfl, Nat.le_of_ble_eq_true rfl, Nat.le_of_ble_eq_true rfl⟩
theorem sw_fs {a b : List Nat} (ha : a.length ≤ 3000) (hb : b.length ≤ 3000) (i : Nat) (off : Bool) (fu k : Int) : ∀ x ∈ (sw a b i off fu k).fs, x.b.length ≤ 3000 := by
  have two : ∀ (x y : Fl), x.b.length ≤ 3000 → y.b.length ≤ 3000 → ∀ z ∈ [x, y], z.b.length ≤ 3000 := by
    intro x y hx hy z hz
    have hz' : z = x ∨ z = y := by simpa using hz
    rcases hz' with rfl | rfl
    · exact hx
    · exact hy
  unfold sw
  split
  · intro z hz
    have hz' : z = ⟨a, a.length⟩ := by simpa using hz
    rw [hz']; exact ha
  · exact two _ _ ha (Nat.zero_le _)
  · exact two _ _ ha hb
  · exact two _ _ ha hb
  · exact two _ _ ha hb
  · exact two _ _ ha hb
theorem sw_used {a b : List Nat} (ha : a.length ≤ 3000) (hb : b.length ≤ 3000) (i : Nat) (off : Bool) (fu k : Int) : usedL (sw a b i off fu k).fs (sw a b i off fu k).dir ≤ 6000 := by
  have h2 : ∀ x y : Nat, x ≤ 3000 → y ≤ 3000 → ([x, y] : List Nat).sum ≤ 6000 := by
    intro x y hx hy
    simp
    omega
  have h1 : ∀ x : Nat, x ≤ 3000 → ([x] : List Nat).sum ≤ 6000 := by
    intro x hx
    simp
    omega
  unfold sw
  split
  · exact h1 _ ha
  · exact h2 _ _ ha (Nat.zero_le _)
  · exact h2 _ _ ha hb
  · exact h2 _ _ ha hb
  · exact h1 _ hb
  · exact h1 _ hb
/-- What a step answers and leaves. -/
def SwQ (w0 : World) (D : Nat) (a b : List Nat) (j : Nat) (e : Ending) (w' : World) : Prop :=
  ∃ x i' off', e = .returned (.int .i64 x) ∧ SwP w0 w' D a b (j + 1) i' off' ∧ ((x = 0 ∧ off' = false) ∨ (x = 12 ∧ off' = true ∧ i' ≤ j))
theorem sw_post {w0 : World} {D : Nat} {a b : List Nat} (ha : a.length ≤ 3000) (hb : b.length ≤ 3000) {j i t : Nat} {n m : ByteArray} {l : List Nat} (hs : Sp b j t n m l) {off : Bool} (hle : i ≤ j) (hon : off = false → i = j) {fu k : Int} (hk : k ≤ 4 + j) {e : Ending} {w' : World} (h : SPost w0 D (sw a b i off fu k) t n m l e w') : SwQ w0 D a b j e w' := by
  obtain ⟨he, ht⟩ := h
  cases off with
  | true =>
    obtain ⟨e1, e2⟩ := nx_off (sw_off a b i true fu k).1 t n m l
    rw [e1] at ht
    rw [e2] at he
    exact ⟨12, i, true, he, ⟨⟨fu, k, ht, by omega⟩, by omega, fun h => by cases h⟩, .inr ⟨rfl, rfl, hle⟩⟩
  | false =>
    obtain rfl := hon rfl
    by_cases hf : fu = 0
    · subst hf
      obtain ⟨e1, e2⟩ := nx_fuse (sw_off a b i false 0 k).1 (sw_off a b i false 0 k).2.1 t n m l
      rw [e1, sw_true] at ht
      rw [e2] at he
      exact ⟨12, i, true, he, ⟨⟨0, k, ht, by omega⟩, by omega, fun h => by cases h⟩, .inr ⟨rfl, rfl, Nat.le_refl _⟩⟩
    · obtain ⟨e1, e2⟩ := nx_ok (sw_off a b i false fu k).1 (by rw [(sw_off a b i false fu k).2.1]; exact hf) (sw_own ha hb hs false fu k) (sw_off a b i false fu k).2.2.1
      rw [e1, sw_do hs] at ht
      rw [e2] at he
      refine ⟨0, i + 1, false, he, ⟨⟨_, _, ht, ?_⟩, Nat.le_refl _, fun _ => rfl⟩, .inl ⟨rfl, rfl⟩⟩
      rw [(sw_off a b i false fu k).2.2.2]
      omega
section
variable {w0 w : World} {D : Nat} {a b : List Nat} {i : Nat} {off : Bool}
theorem SwP.create (ha : a.length ≤ 3000) (hb : b.length ≤ 3000) (h : SwP w0 w D a b 0 i off) : Calls Try.prog 13 #[.pointer (some ⟨D, 0, none⟩), .string ⟨#[110, 101, 119]⟩] w (SwQ w0 D a b 0) := by
  obtain ⟨⟨fu, k, h1, hk⟩, hle, hon⟩ := h
  have hl := sw_lens a b i off fu k
  exact (h1.create nN (by decide) (by rw [(sw_off a b i off fu k).2.2.2]; omega) (by omega) (by omega)).mono fun e w' hp => sw_post ha hb .s0 hle hon hk hp
theorem SwP.append (ha : a.length ≤ 3000) (hb : b.length ≤ 3000) (h : SwP w0 w D a b 1 i off) (A : Option Addr) (c n : Nat) (hn : b.length = n) (hr : Rd w w.heap.size A n (b.map bv)) (hlt : ∀ y ∈ b, y < 256) : Calls Try.prog 18 #[.pointer (some ⟨D, 0, none⟩), .string ⟨#[110, 101, 119]⟩, .slice A n c] w (SwQ w0 D a b 1) := by
  subst hn
  obtain ⟨⟨fu, k, h1, hk⟩, hle, hon⟩ := h
  have hu := sw_used ha hb i off fu k
  have hf := sw_fs ha hb i off fu k
  exact (h1.append nN A c b hr hlt (by omega) (by decide) (by rw [(sw_off a b i off fu k).2.2.2]; omega) (by omega) (fun x hx => by have := hf x hx; omega)).mono fun e w' hp => sw_post ha hb .s1 hle hon hk hp
theorem SwP.sync (ha : a.length ≤ 3000) (hb : b.length ≤ 3000) (h : SwP w0 w D a b 2 i off) : Calls Try.prog 15 #[.pointer (some ⟨D, 0, none⟩), .string ⟨#[110, 101, 119]⟩] w (SwQ w0 D a b 2) := by
  obtain ⟨⟨fu, k, h1, hk⟩, hle, hon⟩ := h
  have hf := sw_fs ha hb i off fu k
  exact (h1.sync nN (by decide) (by rw [(sw_off a b i off fu k).2.2.2]; omega) (fun x hx => by have := hf x hx; omega)).mono fun e w' hp => sw_post ha hb .s2 hle hon hk hp
theorem SwP.rename (ha : a.length ≤ 3000) (hb : b.length ≤ 3000) (h : SwP w0 w D a b 3 i off) : Calls Try.prog 28 #[.pointer (some ⟨D, 0, none⟩), .string ⟨#[110, 101, 119]⟩, .string ⟨#[97]⟩] w (SwQ w0 D a b 3) := by
  obtain ⟨⟨fu, k, h1, hk⟩, hle, hon⟩ := h
  have hl := sw_lens a b i off fu k
  exact (h1.rename nN nA (by decide) (by decide) (by rw [(sw_off a b i off fu k).2.2.2]; omega) (by omega) (by omega)).mono fun e w' hp => sw_post ha hb .s3 hle hon hk hp
theorem SwP.syncdir (ha : a.length ≤ 3000) (hb : b.length ≤ 3000) (h : SwP w0 w D a b 4 i off) : Calls Try.prog 22 #[.pointer (some ⟨D, 0, none⟩)] w (SwQ w0 D a b 4) := by
  obtain ⟨⟨fu, k, h1, hk⟩, hle, hon⟩ := h
  exact (h1.syncdir (by rw [(sw_off a b i off fu k).2.2.2]; omega)).mono fun e w' hp => sw_post ha hb .s4 hle hon hk hp
end
/-! ### a crash -/
theorem set_fl {fs : List Fl} {i j : Nat} (h : i ≠ j) (x : Fl) : fl (fs.set i x) j = fl fs j := by
  unfold fl
  rw [List.getD_eq_getElem?_getD, List.getD_eq_getElem?_getD, List.getElem?_set_ne h]
/-- A file that is sure stays. -/
theorem crashF_full (keep : List Int) {j : Nat} : ∀ (L : List En) (i : Nat) (fs : List Fl), ¬ (fl fs j).s < (fl fs j).b.length → fl (crashF keep i L fs) j = fl fs j
  | [], _, _, _ => rfl
  | e :: r, i, fs, h => by
    unfold crashF
    split
    · rename_i hlt
      have hne : e.f ≠ j := by rintro rfl; exact h hlt
      rw [crashF_full keep r (i + 2) _ (by rw [set_fl hne]; exact h), set_fl hne]
    · exact crashF_full keep r i fs h
theorem fl_mem {fs : List Fl} {j : Nat} : fl fs j ∈ fs ∨ fl fs j = ⟨[], 0⟩ := by
  unfold fl
  rw [List.getD_eq_getElem?_getD]
  cases h : fs[j]? with
  | none => exact .inr rfl
  | some x => exact .inl (List.mem_of_getElem? h)
/-- No file grows. -/
theorem crashF_le (keep : List Int) (N : Nat) : ∀ (L : List En) (i : Nat) (fs : List Fl), (∀ x ∈ fs, x.s ≤ x.b.length ∧ x.b.length ≤ N) → ∀ x ∈ crashF keep i L fs, x.s ≤ x.b.length ∧ x.b.length ≤ N
  | [], _, _, h => h
  | e :: r, i, fs, h => by
    unfold crashF
    split
    · rename_i hlt
      refine crashF_le keep N r (i + 2) _ fun x hx => ?_
      rcases List.mem_or_eq_of_mem_set hx with hx | rfl
      · exact h x hx
      · have hm : fl fs e.f ∈ fs := by
          rcases fl_mem (fs := fs) (j := e.f) with h1 | h1
          · exact h1
          · rw [h1] at hlt; exact absurd hlt (Nat.lt_irrefl _)
        have h1 := h _ hm
        have h2 := keptL_len (x := fl fs e.f) (k := pick keep i) (g := odd (pick keep (i + 1))) h1.1
        have h3 := keptN_le (x := fl fs e.f) (k := pick keep i) h1.1
        refine ⟨Nat.le_refl _, ?_⟩
        show (keptL (fl fs e.f) (pick keep i) (odd (pick keep (i + 1)))).length ≤ N
        omega
    · exact crashF_le keep N r i fs h
theorem rd_of {st : Ds} {keep : List Int} {j : Nat} {n : ByteArray} (h : fnd n.data.toList (crashA keep 0 st.acts st.sure) = some j) (hf : ¬ (fl st.fs j).s < (fl st.fs j).b.length) : readE (crash st keep) n = 0 ∧ readB (crash st keep) n = (fl st.fs j).b := by
  have h1 : hasp n.data.toList (crash st keep).dir = true := (fnd_some h).1
  have h2 : fnd n.data.toList (crash st keep).dir = some j := h
  have h3 : (crash st keep).off = false := rfl
  have h4 : fl (crash st keep).fs j = fl st.fs j := crashF_full keep _ _ _ hf
  unfold readE readB
  rw [h3, h1, h2]
  refine ⟨rfl, ?_⟩
  show (fl (crash st keep).fs j).b = _
  rw [h4]
theorem sw_crash (a b : List Nat) (i : Nat) (off : Bool) (fu k : Int) (keep : List Int) : readE (crash (sw a b i off fu k) keep) nA = 0 ∧ (readB (crash (sw a b i off fu k) keep) nA = a ∨ readB (crash (sw a b i off fu k) keep) nA = b) ∧ (5 ≤ i → readB (crash (sw a b i off fu k) keep) nA = b) := by
  have key : (∃ j, fnd nA.data.toList (crashA keep 0 (sw a b i off fu k).acts (sw a b i off fu k).sure) = some j ∧ ((j = 0 ∧ i < 5 ∧ fl (sw a b i off fu k).fs 0 = ⟨a, a.length⟩) ∨ (j = 1 ∧ fl (sw a b i off fu k).fs 1 = ⟨b, b.length⟩))) := by
    match i with
    | 0 => exact ⟨0, rfl, .inl ⟨rfl, by omega, rfl⟩⟩
    | 1 | 2 | 3 =>
      refine ⟨0, ?_, .inl ⟨rfl, by omega, rfl⟩⟩
      show fnd nA.data.toList (if odd (pick keep 0) = true then [⟨nA, 0⟩, ⟨nN, 1⟩] else [⟨nA, 0⟩]) = some 0
      split <;> rfl
    | 4 =>
      have e : crashA keep 0 (sw a b 4 off fu k).acts (sw a b 4 off fu k).sure = if odd (pick keep 1) = true then actD ⟨1, nN, nA, 1⟩ (if odd (pick keep 0) = true then [⟨nA, 0⟩, ⟨nN, 1⟩] else [⟨nA, 0⟩]) else (if odd (pick keep 0) = true then [⟨nA, 0⟩, ⟨nN, 1⟩] else [⟨nA, 0⟩]) := rfl
      rw [e]
      cases odd (pick keep 1) <;> cases odd (pick keep 0)
      · exact ⟨0, rfl, .inl ⟨rfl, by omega, rfl⟩⟩
      · exact ⟨0, rfl, .inl ⟨rfl, by omega, rfl⟩⟩
      · exact ⟨0, rfl, .inl ⟨rfl, by omega, rfl⟩⟩
      · exact ⟨1, rfl, .inr ⟨rfl, rfl⟩⟩
    | n + 5 => exact ⟨1, rfl, .inr ⟨rfl, rfl⟩⟩
  obtain ⟨j, h1, h2⟩ := key
  rcases h2 with ⟨rfl, hi, hf⟩ | ⟨rfl, hf⟩
  · obtain ⟨r1, r2⟩ := rd_of h1 (by rw [hf]; exact Nat.lt_irrefl _)
    rw [hf] at r2
    exact ⟨r1, .inl r2, fun h => by omega⟩
  · obtain ⟨r1, r2⟩ := rd_of h1 (by rw [hf]; exact Nat.lt_irrefl _)
    rw [hf] at r2
    exact ⟨r1, .inr r2, fun _ => r2⟩
theorem sw_after {a b : List Nat} (ha : a.length ≤ 3000) (hb : b.length ≤ 3000) {w0 w : World} {D : Nat} {i : Nat} {off : Bool} {fu k : Int} (h : At w0 w D (sw a b i off fu k)) (keep : List Int) : ∀ x ∈ (crash (sw a b i off fu k) keep).fs, x.b.length ≤ 1000000000 := by
  intro x hx
  have h1 := crashF_le keep 3000 _ _ _ (fun x hx => ⟨(h.inv.fs x hx).1, sw_fs ha hb i off fu k x hx⟩) x hx
  omega
end Go.Proofs.Ytedjfbkfaioihaa
