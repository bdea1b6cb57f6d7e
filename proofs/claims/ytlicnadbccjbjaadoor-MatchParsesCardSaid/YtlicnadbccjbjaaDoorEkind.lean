/- The sign at a place of a text; what the readers of matchers answer. No conditions. -/
import Derived.Test.YtlicnadbccjbjaaDoorEplain
import Derived.Test.YtlicnadbccjbjaaDoorDrparse
namespace Go.Proofs.YtlicnadbccjbjaaDoor
open Go.RowKit LB

theorem Tryd.info64 : (Tryd.prog.info? 64).map (fun i => (i.zero, i.size, i.bytes)) = some (some (.agg #[.int .i64 0, .string ⟨#[]⟩, .string ⟨#[]⟩]), 3, 40) := by kernel_rfl
/-- What the readers of matchers answer. -/
def MPP (w : World) (S : List UInt8) (e : Ending) (w' : World) : Prop :=
  Below w.heap.size w w' ∧ ((∃ (v : Value) (l : List Mat), e = .returned (.tuple #[v, .int .i64 0]) ∧ w'.ownsRow w.heap.size 64 3 v l.length (mv l) ∧ chkE l = 0 ∧ mtextL l = S ∧ ∀ m, chkE m = 0 → mtextL m = S → m = l) ∨
    (e = .returned (.tuple #[.slice none 0 0, .int .i64 4]) ∧ ∀ m, chkE m = 0 → mtextL m ≠ S))
theorem mpp_no {w w' : World} {S : List UInt8} (h : ∀ m, chkE m = 0 → mtextL m ≠ S) (hb : Below w.heap.size w w') : MPP w S (.returned (.tuple #[.slice none 0 0, .int .i64 4])) w' := ⟨hb, .inr ⟨rfl, h⟩⟩
theorem mpp_star {w : World} {S : List UInt8} (h : S = [42]) : MPP w S (.returned (.tuple #[.slice none 0 0, .int .i64 0])) w :=
  ⟨Below.refl _ _, .inl ⟨_, [], rfl, World.ownsRow_nil _ _ _ _, rfl, by subst h; rfl, fun m hm ht => (mtext_star hm).1 (by rw [ht, h])⟩⟩
theorem bad_all {S : List UInt8} (h : ∀ m, GoodM m → mtextL m ≠ S) (hS : S ≠ [42]) : ∀ m, chkE m = 0 → mtextL m ≠ S := by
  intro m hm ht
  by_cases h0 : m = []
  · subst h0; exact hS ht.symm
  · exact h m ⟨hm, h0⟩ ht
/-- The end: what was read is l, its text T. -/
theorem read_fin {S : List UInt8} {l : List Mat} (hl : ∀ m, GoodM m → mtextL m = S → l = m) (hS : S ≠ [42]) :
    (mtextL l = S → S ≠ [] → chkE l = 0 ∧ mtextL l = S ∧ ∀ m, chkE m = 0 → mtextL m = S → m = l) ∧ (mtextL l ≠ S → ∀ m, chkE m = 0 → mtextL m ≠ S) := by
  refine ⟨fun h hn => ⟨mtext_good h hn, h, fun m hm ht => ?_⟩, fun h => bad_all (fun m hg ht => h (by rw [hl m hg ht, ht])) hS⟩
  by_cases h0 : m = []
  · subst h0; exact absurd ht.symm hS
  · exact (hl m ⟨hm, h0⟩ ht).symm
theorem empty_bad {S : List UInt8} (h : S = []) : ∀ m, chkE m = 0 → mtextL m ≠ S := by
  intro m hm ht; rw [h] at ht; exact mtext_ne hm ht

/-- The kind and the length of the sign at a place. -/
def sgn (s : ByteArray) (m : Nat) : Int × Nat :=
  if h : m < s.size then
    if s[m].toNat = 61 then (1, 1)
    else if h1 : m + 1 < s.size then
      if s[m + 1].toNat = 61 then (if s[m].toNat = 33 then (2, 2) else if s[m].toNat = 94 then (3, 2) else (4, 0)) else (4, 0)
    else (4, 0)
  else (4, 0)
theorem kind_none {R : List UInt8} (h1 : Lib.hasPrefix R [61] = false) (h2 : Lib.hasPrefix R [33, 61] = false) (h3 : Lib.hasPrefix R [94, 61] = false) : kindL R = 4 := by
  unfold kindL
  rw [if_neg (by rw [h1]; decide), if_neg (by rw [h2]; decide), if_neg (by rw [h3]; decide)]
theorem hp_two_no {a b c d : UInt8} {r : List UInt8} (h : a ≠ c ∨ b ≠ d) : Lib.hasPrefix (a :: b :: r) [c, d] = false := by
  rw [Bool.eq_false_iff]
  intro e
  simp [Lib.hasPrefix, List.isPrefixOf] at e
  rcases h with h | h
  · exact h e.1.symm
  · exact h e.2.symm
theorem u8_ne {a : UInt8} {n : Nat} (h : a.toNat ≠ n) (hn : n < 256) : a ≠ UInt8.ofNat n := by
  intro e; rw [e] at h; simp at h; omega
/-- The sign, by what is read of the bytes. -/
theorem sgn_spec (s : ByteArray) (m : Nat) : kindL (s.data.toList.drop m) = (sgn s m).1 ∧ ((sgn s m).1 = 4 ∧ (sgn s m).2 = 0 ∨
    ((sgn s m).1 ≠ 4 ∧ 0 < (sgn s m).2 ∧ m + (sgn s m).2 ≤ s.size ∧ Lib.trimPrefix (s.data.toList.drop m) (signL (sgn s m).1) = s.data.toList.drop (m + (sgn s m).2))) := by
  unfold sgn
  split
  · rename_i h
    have hd := drop_at h
    split
    · rename_i h1
      have hc : s[m] = 61 := u8_of h1
      refine ⟨?_, .inr ⟨by decide, by decide, by show m + 1 ≤ _; omega, ?_⟩⟩
      · rw [hd, hc]; unfold kindL; rw [if_pos (hp_one _ _).1]
      · show Lib.trimPrefix _ [61] = _
        rw [hd, hc, (hp_one _ _).2]
    · rename_i h1
      have hn61 : s[m] ≠ 61 := u8_ne (n := 61) h1 (by decide)
      split
      · rename_i h2
        have hd2 := drop_at h2
        have hdd : s.data.toList.drop m = s[m] :: s[m + 1] :: s.data.toList.drop (m + 2) := by rw [hd, hd2]
        split
        · rename_i h3
          have hc3 : s[m + 1] = 61 := u8_of h3
          split
          · rename_i h4
            have hc4 : s[m] = 33 := u8_of h4
            refine ⟨?_, .inr ⟨by decide, by decide, by show m + 2 ≤ _; omega, ?_⟩⟩
            · rw [hdd, hc3, hc4]; unfold kindL
              rw [if_neg (by rw [hp_head (by decide)]; decide), if_pos (hp_two _ _ _).1]
            · show Lib.trimPrefix _ [33, 61] = _
              rw [hdd, hc3, hc4, (hp_two _ _ _).2]
          · rename_i h4
            have hn33 : s[m] ≠ 33 := u8_ne (n := 33) h4 (by decide)
            split
            · rename_i h5
              have hc5 : s[m] = 94 := u8_of h5
              refine ⟨?_, .inr ⟨by decide, by decide, by show m + 2 ≤ _; omega, ?_⟩⟩
              · rw [hdd, hc3, hc5]; unfold kindL
                rw [if_neg (by rw [hp_head (by decide)]; decide), if_neg (by rw [hp_head (by decide)]; decide), if_pos (hp_two _ _ _).1]
              · show Lib.trimPrefix _ [94, 61] = _
                rw [hdd, hc3, hc5, (hp_two _ _ _).2]
            · rename_i h5
              have hn94 : s[m] ≠ 94 := u8_ne (n := 94) h5 (by decide)
              refine ⟨?_, .inl ⟨rfl, rfl⟩⟩
              rw [hdd]
              exact kind_none (hp_head hn61) (hp_two_no (.inl hn33)) (hp_two_no (.inl hn94))
        · rename_i h3
          have hn3 : s[m + 1] ≠ 61 := u8_ne (n := 61) h3 (by decide)
          refine ⟨?_, .inl ⟨rfl, rfl⟩⟩
          rw [hdd]
          exact kind_none (hp_head hn61) (hp_two_no (.inr hn3)) (hp_two_no (.inr hn3))
      · rename_i h2
        refine ⟨?_, .inl ⟨rfl, rfl⟩⟩
        have hn : s.data.toList.drop (m + 1) = [] := List.drop_eq_nil_of_le (by simp; omega)
        rw [hd, hn]
        refine kind_none (hp_head hn61) ?_ ?_ <;> simp [Lib.hasPrefix, List.isPrefixOf]
  · rename_i h
    refine ⟨?_, .inl ⟨rfl, rfl⟩⟩
    rw [List.drop_eq_nil_of_le (by simp; omega)]
    rfl
end Go.Proofs.YtlicnadbccjbjaaDoor
