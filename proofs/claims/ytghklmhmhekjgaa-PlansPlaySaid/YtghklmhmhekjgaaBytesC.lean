/- Bytes as an argument, and a copy of bytes. Conditions: at most 10^9 bytes. -/
import Derived.Test.YtghklmhmhekjgaaOpenP
import Derived.Test.YtghklmhmhekjgaaReader
namespace Go.Proofs.Ytghklmhmhekjgaa
open Go.ChangeShapes Go.WideShapes Go.ChangeAt Go.RowKit PC

theorem Try.cells5 : Try.prog.cellsOf 5 = 1 := by kernel_rfl
theorem Rd.news {w : World} {B n : Nat} {ad : Addr} {xs : List Value} (h : Rd w B (some ad) n xs) : ∀ j u, xs[j]? = some u → w.cell? (ad.add j) = some u := by
  intro j u hu
  have hj := (List.getElem?_eq_some_iff.1 hu).1
  rw [h.1] at hj
  obtain ⟨b', off', e, _, hc⟩ := h.2 (by omega)
  injection e with e
  subst e
  have e : (⟨b', off', none⟩ : Addr).add j = ⟨b', off' + j, none⟩ := by unfold Addr.add; split <;> simp_all
  rw [e]; exact hc j u hu
theorem Rd.none_zero {w : World} {B n : Nat} {xs : List Value} (h : Rd w B none n xs) : n = 0 ∧ xs = [] := by
  have hn0 : n = 0 := by
    rcases Nat.eq_zero_or_pos n with h0 | h0
    · exact h0
    · obtain ⟨_, _, e, _⟩ := h.2 h0; cases e
  subst hn0
  exact ⟨rfl, List.eq_nil_of_length_eq_zero h.1⟩
set_option maxRecDepth 100000 in
theorem open_rd {H : Type} {enc : TypeId × Value → H} {W : World} {t e base : Nat} {k : IntKind} {v : Value} {d : DataW H} {p : List MemPlace} (ht : Try.prog.underlying t = some (.slice e)) (he : Try.prog.underlying e = some (.int k)) (hc : Try.prog.cellsOf e = 1)
    (hv : Value.okWide Try.prog W .any base t v) (h : DataW.Trod enc Try.prog W 0 (fun _ => true) true t v d p) (hlt : ∀ x ∈ p, x.block < W.heap.size) :
    ∃ (A : Option Addr) (n c : Nat) (l : List Int), v = .slice A n c ∧ Rd W W.heap.size A n (l.map (Value.int k)) ∧ n ≤ c ∧ c ≤ maxLen ∧ ∀ x ∈ l, (Lit.int k x).wf = true := by
  obtain ⟨A, n, c, rfl⟩ := okWide_slice ht hv
  obtain ⟨fuel, hf⟩ := h
  rcases open_ints ht he hc hf with ⟨hcs, hx⟩ | ⟨a, len', cap', zs, hcs, _, hl, hm, hz, hx, hcell, hwz⟩
  · simp [Value.cells] at hcs
    obtain ⟨rfl, rfl, rfl⟩ := hcs
    exact ⟨none, 0, 0, [], rfl, Rd.nil_ _ _ _, Nat.le_refl _, by unfold maxLen; omega, by simp⟩
  · simp [Value.cells] at hcs
    obtain ⟨rfl, rfl, rfl⟩ := hcs
    simp only [Prod.mk.injEq] at hx
    obtain ⟨rfl, rfl⟩ := hx
    simp only [if_true] at hz
    refine ⟨_, n, c, zs.take n, rfl, ⟨by simp; omega, fun hn => ?_⟩, hl, hm, fun x hx => hwz x (List.mem_of_mem_take hx)⟩
    obtain ⟨b, off, rfl, hcc⟩ := ints_at hcell (by omega)
    refine ⟨b, off, rfl, ?_, fun j u hu => ?_⟩
    · have := hlt (.cell b off) (MemPlace.mem_row.2 ⟨0, by omega, rfl⟩)
      exact this
    · rw [List.getElem?_map, Option.map_eq_some_iff] at hu
      obtain ⟨y, hy, rfl⟩ := hu
      have hj := (List.getElem?_eq_some_iff.1 hy).1
      rw [List.length_take] at hj
      rw [List.getElem?_take_of_lt (by omega)] at hy
      rw [hcc j (by omega)]
      simp [List.getD, hy]
/-- Bytes as numbers. -/
theorem bytes_nat {l : List Int} (h : ∀ x ∈ l, (Lit.int .u8 x).wf = true) : ∃ m : List Nat, l.map (Value.int .u8) = m.map bv ∧ ∀ x ∈ m, x < 256 := by
  refine ⟨l.map Int.toNat, ?_, ?_⟩
  · rw [List.map_map]
    refine List.map_congr_left fun x hx => ?_
    have h5 := h x hx
    have e1 : IntKind.u8.min = 0 := rfl
    have e2 : IntKind.u8.max = 255 := rfl
    have : 0 ≤ x ∧ x ≤ 255 := by simpa [Lit.wf, e1, e2] using h5
    show _ = Value.int .u8 _
    rw [Int.toNat_of_nonneg this.1]
  · intro x hx
    obtain ⟨y, hy, rfl⟩ := List.mem_map.1 hx
    have h5 := h y hy
    have e1 : IntKind.u8.min = 0 := rfl
    have e2 : IntKind.u8.max = 255 := rfl
    have : 0 ≤ y ∧ y ≤ 255 := by simpa [Lit.wf, e1, e2] using h5
    omega
theorem one_bytes (l : List Nat) : ∀ u ∈ l.map bv, u.oneCell' = true := by
  intro u hu
  simp only [List.mem_map] at hu
  obtain ⟨x, _, rfl⟩ := hu; rfl
theorem wpList_copy {P : Program} {ops : Array Oper} {rest : List Oper} {o : Oper} {a : Act} {w : World} {Q : Exit → Act → World → Prop} (hgd : o.guard = none) (s x : Operand) (t : TypeId)
    (ho : o.op = .call { callee := .builtin .append, args := #[s, x], argTypes := #[t, t] })
    (e : TypeId) (i : TypeInfo) (z : Value) (bytes : Nat) (ht : P.underlying t = some (.slice e)) (hi : P.info? e = some i) (hz : i.zero = some z)
    (hsize : i.size = 1) (hby : i.bytes = bytes) (hzs : z.cells.size = 1) (hs : a.eval s = .slice none 0 0)
    (A : Option Addr) (n c B : Nat) (xs : List Value) (hx : a.eval x = .slice A n c) (hr : Rd w B A n xs) (h1 : ∀ u ∈ xs, u.oneCell' = true)
    (hn : n * bytes ≤ 140737488355328) (hn2 : n ≤ maxLen)
    (h : ∀ v' w', w'.ownsRow w.heap.size e 1 v' n xs → Below w.heap.size w w' → wpList P ops Q rest (a.put o.dst v') w') : wpList P ops Q (o :: rest) a w := by
  rcases A with _ | ad
  · obtain ⟨rfl, rfl⟩ := hr.none_zero
    refine wpList_plain hgd fun K hK => ?_
    have hrun : (Builtin.append_ #[t, t] o.type #[.slice none 0 0, .slice none 0 c]).run P w = .ok (.slice none 0 0) w := by
      simp [Builtin.append_, run_underlying ht, sizeOf, typeInfo, hi, Builtin.lenOf, Builtin.firstCells]
    unfold Oper.wp execOp
    simp only [ho, resolve, invoke, builtin, Sem.run_bind, Sem.run_pure, Result.andThen_ok, List.map_toArray, List.map_cons, List.map_nil, hs, hx, hrun]
    exact hK _ _ (h _ _ (World.ownsRow_nil _ _ _ _) (Below.refl _ _))
  · refine wpList_append_own_at w hgd s x t ho w.heap.size e i z 1 bytes ht hi hz hsize hby hzs (by omega) _ 0 [] hs (World.ownsRow_nil _ _ _ _) ad n c xs hx (by rw [hr.1, Nat.mul_one]) hr.news h1 (by omega) (by rw [Nat.zero_add]; exact hn) (Nat.le_refl _) ?_
    intro v' w' hown hg _ _
    rw [Nat.zero_add, List.nil_append] at hown
    exact h v' w' hown ((Below.refl _ _).grown hg (Nat.le_refl _) (fun k hk => by cases hk))
end Go.Proofs.Ytghklmhmhekjgaa
