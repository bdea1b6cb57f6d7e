/- Bytes in memory that are appended to and turned in place. Conditions: at most 10^9 bytes. -/
import Derived.Test.YtedjfbkfaioihaaWords
import Derived.Test.YtedjfbkfaioihaaProg
import Derived.Deep.RegionLawGrows
import Derived.Laws.IdiomCopy
namespace Go.Proofs.Ytedjfbkfaioihaa
open Go.RowKit

theorem add_at (b o j : Nat) : (⟨b, o, none⟩ : Addr).add j = ⟨b, o + j, none⟩ := by unfold Addr.add; split <;> simp_all
def bv (n : Nat) : Value := .int .u8 (n : Int)
theorem bv_one (l : List Nat) : ∀ u ∈ l.map bv, u.oneCell' = true := by
  intro u hu
  obtain ⟨x, _, rfl⟩ := List.mem_map.1 hu
  rfl
theorem Try.info5' : (Try.prog.info? 5).map (fun i => (i.zero, i.size, i.bytes)) = some (some (.int .u8 0), 1, 1) := by kernel_rfl

theorem Kp.set (S : Nat → Prop) (w : World) (g i : Nat) (v : Value) (hg : S g) : Kp S w (w.setCell ⟨g, i, none⟩ v) := (Kp.refl S w).setCell (p := ⟨g, i, none⟩) (.inl hg) v
theorem Kp.setCells (S : Nat → Prop) (g : Nat) (hg : S g) : ∀ (vs : List Value) (o : Nat) (w : World), Kp S w (w.setCells g o vs)
  | [], _, w => Kp.refl S w
  | v :: r, o, w => (Kp.set S w g o v hg).trans (Kp.setCells S g hg r (o + 1) _) (fun _ _ h => h)
theorem Arr.setCells {g : Nat} {t : TypeId} : ∀ (vs : List Value) (o : Nat) (w : World) (cur : Array Value), Arr w g t cur → o + vs.length ≤ cur.size →
    ∃ cur', Arr (w.setCells g o vs) g t cur' ∧ cur'.size = cur.size ∧ cur'.toList = cur.toList.take o ++ vs ++ cur.toList.drop (o + vs.length)
  | [], o, w, cur, h, _ => ⟨cur, h, rfl, by simp⟩
  | v :: r, o, w, cur, h, hl => by
    obtain ⟨cur', h1, h2, h3⟩ := Arr.setCells r (o + 1) _ _ (h.set o v) (by simp at hl ⊢; omega)
    refine ⟨cur', h1, by simpa using h2, ?_⟩
    rw [h3]
    have ho : o < cur.toList.length := by simp at hl ⊢; omega
    rw [Array.toList_setIfInBounds, List.take_succ_eq_append_getElem (by simpa using ho)]
    simp only [List.length_cons, List.getElem_set_self, List.take_set_of_le (Nat.le_refl o)]
    rw [List.drop_set_of_lt (by omega), List.append_assoc, List.append_assoc, List.append_assoc, show o + 1 + r.length = o + (r.length + 1) by omega]
    rfl

/-- v is a slice of bytes l, at the beginning of an array of its own (nil let in). -/
def Bts (w : World) (φ : Nat → Prop) (v : Value) (l : List Nat) : Prop :=
  (v = .slice none 0 0 ∧ l = []) ∨ ∃ g c cur, v = .slice (some ⟨g, 0, none⟩) l.length c ∧ φ g ∧ Arr w g 5 cur ∧ l.length ≤ c ∧ c ≤ cur.size ∧ c ≤ maxLen ∧ cur.toList.take l.length = l.map bv
section
variable {w w' : World} {φ ψ : Nat → Prop} {v : Value} {l : List Nat}
theorem Bts.nil_ (w : World) (φ : Nat → Prop) : Bts w φ (.slice none 0 0) [] := .inl ⟨rfl, rfl⟩
theorem Bts.keep (h : Bts w φ v l) (hk : ∀ x, φ x → x < w.heap.size → w'.heap[x]? = w.heap[x]?) : Bts w' φ v l := by
  rcases h with h | ⟨g, c, cur, h1, h2, h3, h4⟩
  · exact .inl h
  · exact .inr ⟨g, c, cur, h1, h2, (hk g h2 h3.lt).trans h3, h4⟩
theorem Bts.keep1 (h : Bts w φ v l) (hk : ∀ x, v.ownBlock = some x → φ x → x < w.heap.size → w'.heap[x]? = w.heap[x]?) : Bts w' φ v l := by
  rcases h with h | ⟨g, c, cur, h1, h2, h3, h4⟩
  · exact .inl h
  · exact .inr ⟨g, c, cur, h1, h2, (hk g (by rw [h1]; rfl) h2 h3.lt).trans h3, h4⟩
theorem Bts.mono (h : Bts w φ v l) (hm : ∀ x, φ x → ψ x) : Bts w ψ v l := by
  rcases h with h | ⟨g, c, cur, h1, h2, h3⟩
  · exact .inl h
  · exact .inr ⟨g, c, cur, h1, hm g h2, h3⟩
theorem Bts.form (h : Bts w φ v l) : ∃ A c, v = .slice A l.length c ∧ Rd w w.heap.size A l.length (l.map bv) ∧ l.length ≤ c ∧ c ≤ maxLen ∧ ((A = none ∧ c = 0) ∨ ∃ g, A = some ⟨g, 0, none⟩) := by
  rcases h with ⟨rfl, rfl⟩ | ⟨g, c, cur, rfl, _, h3, h4, h5, h6, h7⟩
  · exact ⟨none, 0, rfl, ⟨rfl, fun h => absurd h (by simp)⟩, Nat.le_refl _, by unfold maxLen; omega, .inl ⟨rfl, rfl⟩⟩
  · refine ⟨_, c, rfl, ⟨by simp, fun _ => ⟨g, 0, rfl, h3.lt, fun j u hu => ?_⟩⟩, h4, h6, .inr ⟨g, rfl⟩⟩
    rw [Nat.zero_add]
    have hj : j < l.length := by have := (List.getElem?_eq_some_iff.1 hu).1; simpa using this
    rw [← h7, List.getElem?_take_of_lt hj, Array.getElem?_toList] at hu
    exact h3.at_ hu
theorem Bts.own (h : Bts w φ v l) : ∀ x, v.ownBlock = some x → φ x ∧ x < w.heap.size := by
  intro x hx
  rcases h with ⟨rfl, rfl⟩ | ⟨g, c, cur, rfl, h2, h3, _⟩
  · cases hx
  · simp [Value.ownBlock] at hx
    subst hx
    exact ⟨h2, h3.lt⟩
theorem Bts.of_own {base n : Nat} (h : w.ownsRow base 5 1 v n (l.map bv)) (hp : ∀ x, base ≤ x → φ x) : Bts w φ v l := by
  have hn : l.length = n := by have := h.1; simpa using this
  rcases h.2 with ⟨rfl, h0⟩ | ⟨g, cap, cur, rfl, hb, hg, r1, r2, r3, r4⟩
  · exact .inl ⟨rfl, List.eq_nil_of_length_eq_zero (by omega)⟩
  · subst hn
    exact .inr ⟨g, cap, cur, rfl, hp g hb, hg, r1, by omega, r2, by simpa using r4⟩
end

/-- append of nothing. -/
theorem run_append_void {P : Program} (w : World) (t ty e : TypeId) (i : TypeInfo) (ht : P.underlying t = some (.slice e)) (hi : P.info? e = some i) (A : Option Addr) (n cap c : Nat) (h : n ≤ cap) (h0 : A = none → n = 0 ∧ cap = 0) :
    (Builtin.append_ #[t, t] ty #[.slice A n cap, .slice none 0 c]).run P w = .ok (.slice A n cap) w := by
  rcases A with _ | ad
  · obtain ⟨rfl, rfl⟩ := h0 rfl
    simp [Builtin.append_, run_underlying ht, sizeOf, typeInfo, hi, Builtin.lenOf, Builtin.firstCells]
  · simp [Builtin.append_, run_underlying ht, sizeOf, typeInfo, hi, Builtin.lenOf, Builtin.firstCells, h, storeCells, loadCells]
/-- append of bytes to such a slice. -/
theorem run_append_bts {w : World} {φ : Nat → Prop} {v : Value} {l : List Nat} (h : Bts w φ v l) (ty : TypeId) (A : Option Addr) (m c B : Nat) (l2 : List Nat) (hr : Rd w B A m (l2.map bv)) (hn : l.length + m ≤ 1000000000) :
    ∃ v' w', (Builtin.append_ #[31, 31] ty #[v, .slice A m c]).run Try.prog w = .ok v' w' ∧ Bts w' (fun x => φ x ∨ w.heap.size ≤ x) v' (l ++ l2) ∧ Kp (fun x => v.ownBlock = some x) w w' ∧
      (v'.ownBlock = v.ownBlock ∨ ∃ g, v'.ownBlock = some g ∧ w.heap.size ≤ g) := by
  obtain ⟨i0, hi, hz0, hz1, hz2⟩ := info_parts Try.info5'
  have hm2 : l2.length = m := by have := hr.1; simpa using this
  rcases A with _ | ad
  · have h0 : m = 0 := by
      rcases Nat.eq_zero_or_pos m with h0 | h0
      · exact h0
      · obtain ⟨_, _, e, _⟩ := hr.2 h0; cases e
    subst h0
    have : l2 = [] := List.eq_nil_of_length_eq_zero hm2
    subst this
    refine ⟨v, w, ?_, by rw [List.append_nil]; exact h.mono fun _ h => .inl h, Kp.refl _ _, .inl rfl⟩
    rcases h with ⟨rfl, rfl⟩ | ⟨g, cap, cur, rfl, _, _, hnc, _⟩
    · have := run_append_void (P := Try.prog) w 31 ty 5 i0 Try.underlying31 hi none 0 0 c (Nat.le_refl _) (fun _ => ⟨rfl, rfl⟩)
      exact this
    · have := run_append_void (P := Try.prog) w 31 ty 5 i0 Try.underlying31 hi (some ⟨g, 0, none⟩) l.length cap c hnc (fun h => by cases h)
      exact this
  · have hnews : ∀ j u, (l2.map bv)[j]? = some u → w.cell? (ad.add j) = some u := by
      intro j u hu
      have hj := (List.getElem?_eq_some_iff.1 hu).1
      rw [hr.1] at hj
      obtain ⟨b', off', e, _, hc⟩ := hr.2 (by omega)
      have e := Option.some.inj e
      subst e
      rw [add_at]; exact hc j u hu
    have hml : (l2.map bv).length = m * 1 := by rw [hr.1, Nat.mul_one]
    have hb1 : 0 + m ≤ maxLen := by unfold maxLen; omega
    have hb2 : (0 + m) * 1 ≤ 140737488355328 := by omega
    rcases h with ⟨rfl, rfl⟩ | ⟨g, cap, cur, rfl, hg, ha, hnc, hcs, hcm, htk⟩
    · obtain ⟨v', w', hrun, r1, r2, _⟩ := run_append_own (P := Try.prog) w w.heap.size 31 ty 5 i0 _ 1 1 Try.underlying31 hi hz0 hz1 hz2 rfl (by omega) (.slice none 0 0) 0 [] (World.ownsRow_nil w _ 5 1) ad m c (l2.map bv) hml hnews (bv_one l2) hb1 hb2 (Nat.le_refl _)
      rw [List.nil_append] at r1
      have r1' := r1
      rw [List.nil_append]
      refine ⟨v', w', hrun, Bts.of_own r1' (fun x hx => .inr hx), (Kp.refl _ w).grown r2 (fun x hx e => by cases e), ?_⟩
      rcases r1'.2 with ⟨e0, _⟩ | ⟨g, cap, cur, e0, hb, _⟩
      · exact .inl (by rw [e0])
      · exact .inr ⟨g, by rw [e0]; rfl, hb⟩
    · by_cases hroom : l.length + m ≤ cap
      · have hspare : ∀ j, j < (l2.map bv).length → (w.cell? ⟨g, 0 + l.length * 1 + j, none⟩).isSome = true ∧ w.frozen? ⟨g, 0 + l.length * 1 + j, none⟩ = false := by
          intro j hj
          rw [hr.1] at hj
          refine ⟨?_, ha.frozen _⟩
          rw [ha.cell]
          simp
          omega
        have hrun := run_append_room_cells (P := Try.prog) w 31 ty 5 i0 Try.underlying31 hi g 0 l.length cap ad m c (l2.map bv) (by rw [hz1]; exact hml) hnews (bv_one l2) hroom (fun j hj => by rw [hz1]; exact (hspare j hj).1) (fun j hj => by rw [hz1]; exact (hspare j hj).2)
        rw [hz1] at hrun
        obtain ⟨cur', h1, h2, h3⟩ := Arr.setCells (l2.map bv) (0 + l.length * 1) w cur ha (by rw [hr.1]; omega)
        refine ⟨_, _, hrun, .inr ⟨g, cap, cur', by rw [List.length_append, hm2], .inl hg, h1, by rw [List.length_append]; omega, by omega, hcm, ?_⟩, Kp.setCells (fun x => (Value.slice (some ⟨g, 0, none⟩) l.length cap).ownBlock = some x) g rfl _ _ _, .inl rfl⟩
        rw [h3, List.length_append, List.map_append, show 0 + l.length * 1 = l.length by omega, List.take_append_of_le_length (by simp; omega), List.take_of_length_le (by simp; omega), htk]
      · obtain ⟨v', w', hrun, r1, r2⟩ := run_append_arg_grows (P := Try.prog) w 31 ty 5 i0 _ 1 1 Try.underlying31 hi hz0 hz1 hz2 rfl (by omega) ⟨g, 0, none⟩ l.length cap (l.map bv) (by simp) (fun j u hu => by
            have hj : j < l.length := by have := (List.getElem?_eq_some_iff.1 hu).1; simpa using this
            rw [← htk, List.getElem?_take_of_lt hj, Array.getElem?_toList] at hu
            rw [add_at, Nat.zero_add]
            exact ha.at_ hu) ad m c (l2.map bv) hml hnews (by omega) (by unfold maxLen; omega) (by omega)
        rw [← List.map_append] at r1
        refine ⟨v', w', hrun, Bts.of_own r1 (fun x hx => .inr hx), (Kp.refl _ w).grown r2 (fun x hx e => by cases e), ?_⟩
        rcases r1.2 with ⟨e0, h0⟩ | ⟨g2, cap2, cur2, e0, hb, _⟩
        · exfalso; omega
        · exact .inr ⟨g2, by rw [e0]; rfl, hb⟩
end Go.Proofs.Ytedjfbkfaioihaa
