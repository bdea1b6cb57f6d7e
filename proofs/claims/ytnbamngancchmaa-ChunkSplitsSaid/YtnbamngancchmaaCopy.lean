/- 'append([]T(nil), x...)' copies what x reads as into new memory. Conditions: at most 10^9 elements. -/
import Derived.Test.YtnbamngancchmaaOpens
import Derived.Test.YtnbamngancchmaaClone
import Derived.Test.YtnbamngancchmaaUnpack
namespace Go.Proofs.Ytnbamngancchmaa
open Go.RowKit PB PS

theorem Rd.none_zero {w : World} {B n : Nat} {xs : List Value} (h : Rd w B none n xs) : n = 0 ∧ xs = [] := by
  have hn0 : n = 0 := by
    rcases Nat.eq_zero_or_pos n with h0 | h0
    · exact h0
    · obtain ⟨_, _, e, _⟩ := h.2 h0; cases e
  subst hn0
  exact ⟨rfl, List.eq_nil_of_length_eq_zero h.1⟩

theorem wpList_copy {P : Program} {ops : Array Oper} {rest : List Oper} {o : Oper} {a : Act} {w : World} {Q : Exit → Act → World → Prop} (hgd : o.guard = none) (s x : Operand) (t : TypeId)
    (ho : o.op = .call { callee := .builtin .append, args := #[s, x], argTypes := #[t, t] })
    (e : TypeId) (i : TypeInfo) (z : Value) (bytes : Nat) (ht : P.underlying t = some (.slice e)) (hi : P.info? e = some i) (hz : i.zero = some z)
    (hsize : i.size = 1) (hby : i.bytes = bytes) (hzs : z.cells.size = 1) (hs : a.eval s = .slice none 0 0)
    (A : Option Addr) (n c B : Nat) (xs : List Value) (hx : a.eval x = .slice A n c) (hr : Rd w B A n xs) (h1 : ∀ u ∈ xs, u.oneCell' = true)
    (hn : n * bytes ≤ 140737488355328) (hn2 : n ≤ maxLen)
    (h : ∀ v' w', w'.ownsRow w.heap.size e 1 v' n xs → Below w.heap.size w w' → wpList P ops Q rest (a.put o.dst v') w') : wpList P ops Q (o :: rest) a w := by
  rcases A with _ | ad
  · obtain ⟨rfl, rfl⟩ := hr.none_zero
    refine wpList_plain hgd fun K hK => ?_
    have hrun : (Builtin.append_ #[t, t] o.type #[.slice none 0 0, .slice none 0 c]).run P w = .ok (.slice none 0 0) w := by
      simp [Builtin.append_, run_underlying ht, sizeOf, typeInfo, hi, Builtin.lenOf, Builtin.firstCells, loadCells, loadCellsFrom]
    unfold Oper.wp execOp
    simp only [ho, resolve, invoke, builtin, Sem.run_bind, Sem.run_pure, Result.andThen_ok, List.map_toArray, List.map_cons, List.map_nil, hs, hx, hrun]
    exact hK _ _ (h _ _ (World.ownsRow_nil _ _ _ _) (Below.refl _ _))
  · refine wpList_append_own_at w hgd s x t ho w.heap.size e i z 1 bytes ht hi hz hsize hby hzs (by omega) _ 0 [] hs (World.ownsRow_nil _ _ _ _) ad n c xs hx (by rw [hr.1, Nat.mul_one]) hr.news h1 (by omega) (by rw [Nat.zero_add]; exact hn) (Nat.le_refl _) ?_
    intro v' w' hown hg _ _
    rw [Nat.zero_add, List.nil_append] at hown
    exact h v' w' hown ((Below.refl _ _).grown hg (Nat.le_refl _) (fun k hk => by cases hk))
theorem one_ints (l : List Int) : ∀ u ∈ ints l, u.oneCell' = true := by
  intro u hu
  simp only [ints, List.mem_map] at hu
  obtain ⟨x, _, rfl⟩ := hu; rfl
theorem one_bytes (l : List Nat) : ∀ u ∈ l.map bv, u.oneCell' = true := by
  intro u hu
  simp only [List.mem_map] at hu
  obtain ⟨x, _, rfl⟩ := hu; rfl
end Go.Proofs.Ytnbamngancchmaa
