/- A row of rows: a slice of slices of samples, each in memory of its own. No conditions. -/
import Derived.Test.YtnbamngancchmaaClone2
namespace Go.Proofs.Ytnbamngancchmaa
open Go.RowKit PB

theorem Try.info38 : (Try.prog.info? 38).map (fun i => (i.zero, i.size, i.bytes)) = some (some (.slice none 0 0), 1, 24) := by kernel_rfl

/-- The k-th piece of a list of samples, and how many there are. -/
def pc (l : List (Int × Int)) (k : Nat) : List (Int × Int) := (l.drop (120 * k)).take 120
theorem pc_len (l : List (Int × Int)) (k : Nat) : (pc l k).length = min (l.length - 120 * k) 120 := by simp [pc]; omega

/-- Rows of two make lie in different blocks. -/
theorem own_apart {w : World} {b1 b2 s1 s2 n1 n2 : Nat} {e1 e2 : TypeId} {v1 v2 : Value} {xs ys : List Value} (h : w.ownsRow b1 e1 s1 v1 n1 xs) (h' : w.ownsRow b2 e2 s2 v2 n2 ys) (hne : e2 ≠ e1) : ∀ x, v1.ownBlock = some x → v2.ownBlock ≠ some x := by
  intro x hx
  rcases h.2 with ⟨rfl, _⟩ | ⟨g', cap, cur, rfl, _, hh, _⟩
  · simp [Value.ownBlock] at hx
  · have : g' = x := by simpa [Value.ownBlock] using hx
    subst this
    exact own_ne (cs := cur) h' hh hne

/-- The slice v holds the slices vs; the j-th of them owns the samples P j, each in a block of its own. -/
structure RwV (W : World) (base : Nat) (v : Value) (k : Nat) (vs : List Value) (P : Nat → List (Int × Int)) : Prop where
  out : W.ownsRow base 38 1 v k vs
  inn : ∀ j, j < k → ∃ u, vs[j]? = some u ∧ W.ownsRow base 43 2 u (P j).length (sc (P j))
  dis : ∀ i j ui uj x, i < k → j < k → i ≠ j → vs[i]? = some ui → vs[j]? = some uj → ui.ownBlock = some x → uj.ownBlock ≠ some x

theorem RwV.nil (W : World) (base : Nat) (P : Nat → List (Int × Int)) : RwV W base (.slice none 0 0) 0 [] P := ⟨World.ownsRow_nil _ _ _ _, fun j h => by omega, fun i j ui uj x h => by omega⟩
theorem RwV.len {W : World} {base : Nat} {v : Value} {k : Nat} {vs : List Value} {P : Nat → List (Int × Int)} (h : RwV W base v k vs P) : vs.length = k := by have := h.out.1; simpa using this
/-- Nothing of the rows' blocks turned. -/
theorem RwV.kp {W W' : World} {S : Nat → Prop} {base : Nat} {v : Value} {k : Nat} {vs : List Value} {P : Nat → List (Int × Int)} (h : RwV W base v k vs P) (hk : Kp S W W') (hS : ∀ x, base ≤ x → x < W.heap.size → (∀ cs t, W.heap[x]? = some (.cells cs t (0, 0)) → t = 38 ∨ t = 43 → ¬ S x)) : RwV W' base v k vs P := by
  refine ⟨own_kp h.out hk fun x hx => ?_, fun j hj => ?_, h.dis⟩
  · rcases h.out.2 with ⟨rfl, _⟩ | ⟨g', cap, cur, rfl, hb, hgg, _⟩
    · simp [Value.ownBlock] at hx
    · have : g' = x := by simpa [Value.ownBlock] using hx
      subst this
      exact hS g' hb (Array.getElem?_eq_some_iff.1 hgg).1 cur 38 hgg (.inl rfl)
  · obtain ⟨u, hu, hown⟩ := h.inn j hj
    refine ⟨u, hu, own_kp hown hk fun x hx => ?_⟩
    rcases hown.2 with ⟨rfl, _⟩ | ⟨g', cap, cur, rfl, hb, hgg, _⟩
    · simp [Value.ownBlock] at hx
    · have : g' = x := by simpa [Value.ownBlock] using hx
      subst this
      exact hS g' hb (Array.getElem?_eq_some_iff.1 hgg).1 cur 43 hgg (.inr rfl)
theorem RwV.below {W W' : World} {base : Nat} {v : Value} {k : Nat} {vs : List Value} {P : Nat → List (Int × Int)} (h : RwV W base v k vs P) (hb : Below W.heap.size W W') : RwV W' base v k vs P :=
  h.kp (Kp.none_of_below (S := fun _ => False) hb) (fun _ _ _ _ _ _ _ h => h)
theorem RwV.drew {W : World} {base : Nat} {v : Value} {k : Nat} {vs : List Value} {P : Nat → List (Int × Int)} (h : RwV W base v k vs P) : RwV W.drew base v k vs P := ⟨h.out, h.inn, h.dis⟩

/-- One more row, made behind all that was there. -/
theorem RwV.push {W W1 w3 : World} {X : Obj} {base : Nat} {v v' u : Value} {k : Nat} {vs : List Value} {P : Nat → List (Int × Int)} (h : RwV W base v k vs P) (hbase : base ≤ W.heap.size) (hb : Below W.heap.size W W1)
    (hu : W1.ownsRow W.heap.size 43 2 u (P k).length (sc (P k))) (hown : w3.ownsRow base 38 1 v' (k + 1) (vs ++ [u])) (hg : (W1.alloc X).grownBy w3 v.ownBlock) : RwV w3 base v' (k + 1) (vs ++ [u]) P ∧ Below base W w3 := by
  have h1 := h.below hb
  have hk : Kp (fun x => v.ownBlock = some x) W1 w3 := ((Kp.refl _ W1).alloc _).grown hg (fun x _ h => h)
  have hlen := h.len
  refine ⟨⟨hown, fun j hj => ?_, fun i j ui uj x hi hj hij hui huj hx => ?_⟩, ?_⟩
  · by_cases hjk : j < k
    · obtain ⟨y, hy, ho⟩ := h1.inn j hjk
      exact ⟨y, by rw [List.getElem?_append_left (by omega)]; exact hy, own_kp ho hk fun x hx hv => own_apart ho h1.out (by decide) x hx hv⟩
    · obtain rfl : j = k := by omega
      exact ⟨u, by rw [List.getElem?_append_right (by omega), hlen]; simp, own_base (own_kp hu hk fun x hx hv => own_apart hu h1.out (by decide) x hx hv) hbase⟩
  · have hnew : ∀ i, i < k → ∀ ui, vs[i]? = some ui → ∀ x, ui.ownBlock = some x → u.ownBlock ≠ some x := by
      intro i hi ui hui x hx hux
      obtain ⟨y, hy, ho⟩ := h.inn i hi
      rw [hui] at hy
      injection hy with hy
      subst hy
      have a := (ho.lt x hx).2
      have b := (hu.lt x hux).1
      omega
    by_cases hik : i < k
    · rw [List.getElem?_append_left (by omega)] at hui
      by_cases hjk : j < k
      · rw [List.getElem?_append_left (by omega)] at huj
        exact h.dis i j ui uj x hik hjk hij hui huj hx
      · rw [List.getElem?_append_right (by omega), show j - vs.length = 0 by omega] at huj
        simp at huj
        subst huj
        exact hnew i hik ui hui x hx
    · rw [List.getElem?_append_right (by omega), show i - vs.length = 0 by omega] at hui
      simp at hui
      subst hui
      have hjk : j < k := by omega
      rw [List.getElem?_append_left (by omega)] at huj
      exact fun hux => hnew j hjk uj huj x hux hx
  · exact ((hb.mono hbase).alloc (Nat.le_trans hbase hb.size) _).grown hg (by have := hb.size; simp; omega) (fun x hx => (h.out.lt x hx).1)
end Go.Proofs.Ytnbamngancchmaa
