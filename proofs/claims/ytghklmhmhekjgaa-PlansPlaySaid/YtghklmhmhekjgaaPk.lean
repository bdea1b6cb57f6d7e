/- The bytes of plans; what a round of Pack keeps. No conditions. -/
import Derived.Test.YtghklmhmhekjgaaRound
import Derived.Test.YtghklmhmhekjgaaZig
import Derived.Test.YtghklmhmhekjgaaList
import Derived.Lib.AppendStr
namespace Go.Proofs.Ytghklmhmhekjgaa
open Go.RowKit PC

/-- A text's bytes, as numbers. -/
def nb (s : ByteArray) : List Nat := s.data.toList.map UInt8.toNat
theorem nb_len (s : ByteArray) : (nb s).length = s.size := by unfold nb; rw [List.length_map, Array.length_toList]; rfl
theorem nb_lt (s : ByteArray) : ∀ x ∈ nb s, x < 256 := by
  intro x hx
  unfold nb at hx
  obtain ⟨c, _, rfl⟩ := List.mem_map.1 hx
  exact c.toNat_lt
theorem nb_cells (s : ByteArray) : Lib.strCells s = (nb s).map bv := by
  unfold Lib.strCells nb
  rw [List.map_map]
  rfl
/-- A plan's bytes. -/
def pk1 (p : Pl) : List Nat := vput p.n.size ++ (nb p.n ++ (vput (zig p.f) ++ (vput (zig p.t) ++ vput (PV.un p.r))))
/-- A table's bytes, n told at their head. -/
def packL (L : List Pl) : List Nat := vput L.length ++ L.flatMap pk1
/-- When k are packed. -/
def pkTo (L : List Pl) (k : Nat) : List Nat := vput L.length ++ (L.take k).flatMap pk1
theorem pkTo_end (L : List Pl) : pkTo L L.length = packL L := by unfold pkTo packL; rw [List.take_length]
theorem pkTo_succ {L : List Pl} {k : Nat} {p : Pl} (h : L[k]? = some p) : pkTo L (k + 1) = pkTo L k ++ pk1 p := by
  unfold pkTo
  rw [List.take_add_one, h, List.flatMap_append, List.append_assoc]
  simp
theorem pk1_len {p : Pl} (h : p.n.size ≤ 1000000) : (pk1 p).length ≤ 1000044 := by
  unfold pk1
  simp only [List.length_append, nb_len]
  have h1 := vput_len p.n.size; have h2 := vput_len (zig p.f); have h3 := vput_len (zig p.t); have h4 := vput_len (PV.un p.r)
  omega
theorem pkTo_len {L : List Pl} (h : ∀ p ∈ L, p.n.size ≤ 1000000) (k : Nat) : 0 < (pkTo L k).length ∧ (pkTo L k).length ≤ 11 + 1000044 * k := by
  unfold pkTo
  rw [List.length_append]
  have h1 := vput_len L.length
  have h2 : ((L.take k).flatMap pk1).length ≤ 1000044 * (L.take k).length := by
    have : ∀ M : List Pl, (∀ p ∈ M, p.n.size ≤ 1000000) → (M.flatMap pk1).length ≤ 1000044 * M.length := by
      intro M hM
      induction M with
      | nil => simp
      | cons a r ih =>
        rw [List.flatMap_cons, List.length_append, List.length_cons]
        have := pk1_len (hM a (List.mem_cons_self ..))
        have := ih (fun p hp => hM p (List.mem_cons_of_mem _ hp))
        omega
    exact this _ (fun p hp => h p (List.mem_of_mem_take hp))
  have h3 : (L.take k).length ≤ k := by rw [List.length_take]; omega
  have h4 : 1000044 * (L.take k).length ≤ 1000044 * k := Nat.mul_le_mul_left _ h3
  omega
theorem un_nat {n : Nat} (h : n < 9223372036854775808) : PV.un (n : Int) = n := by unfold PV.un; omega

/-- What a round of Pack keeps, from its start W1 on; the box holds v. -/
structure Fr (base B1 Bx x : Nat) (cz cs : Array Value) (v : Value) (W1 W : World) : Prop where
  ko : KeepsOthers W1 W
  bl : Below base W1 W
  xh : W.heap[x]? = W1.heap[x]?
  xt : ∃ cs t, W.heap[x]? = some (.cells cs t (0, 0)) ∧ (t = 9 ∨ t = 54)
  ab : Boxed W B1 36 v
  ax : Arr W Bx 27 cs
  hb : base ≤ B1
  az : Arr W (B1 + 1) 24 cz
section
variable {base B1 Bx x : Nat} {cz cs : Array Value} {v : Value} {W1 W W' : World}
theorem Fr.drew (h : Fr base B1 Bx x cz cs v W1 W) : Fr base B1 Bx x cz cs v W1 W.drew := ⟨h.ko.trans (KeepsOthers.drew W), h.bl.drew, h.xh, h.xt, h.ab, h.ax, h.hb, h.az⟩
theorem Fr.call (h : Fr base B1 Bx x cz cs v W1 W) (k : Below W.heap.size W W') : Fr base B1 Bx x cz cs v W1 W' := by
  have hx := lt_of_cells h.xt
  have e := k.block x hx
  obtain ⟨c, t, h1, h2⟩ := h.xt
  exact ⟨h.ko.trans ⟨k.size, fun i o hi _ => (k.block i (Array.getElem?_eq_some_iff.1 hi).1).trans hi⟩, h.bl.trans (k.mono (by have := h.ab.lt; have := h.hb; omega)), e.trans h.xh, ⟨c, t, e.trans h1, h2⟩,
    (k.block B1 h.ab.lt).trans h.ab, h.ax.below k h.ax.lt, h.hb, h.az.below k h.az.lt⟩
/-- Bytes are appended in the row of u. -/
theorem Fr.app {m : Nat} {xs : List Value} {u : Value} (h : Fr base B1 Bx x cz cs v W1 W) (hrow : W.ownsRow base 5 1 u m xs) (hg : W.grownBy W' u.ownBlock) : Fr base B1 Bx x cz cs v W1 W' := by
  have ha : Arr W B1 36 #[v] := h.ab
  have n1 := own_ne hrow ha (by decide)
  have n2 := own_ne hrow h.ax (by decide)
  obtain ⟨c, t, h1, h2⟩ := h.xt
  have n3 := own_ne hrow (show Arr W x t c from h1) (by rcases h2 with rfl | rfl <;> decide)
  have hx := lt_of_cells h.xt
  have e := hg.block x hx (fun e => n3 e.symm)
  refine ⟨h.ko.trans (KeepsOthers.of_grownBy hg fun j o ej hj => ?_), h.bl.grown hg (by have := h.ab.lt; have := h.hb; omega) (fun j ej => ?_), e.trans h.xh, ⟨c, t, e.trans h1, h2⟩, (hg.block B1 h.ab.lt (fun e => n1 e.symm)).trans h.ab, h.ax.grown hg n2, h.hb, h.az.grown hg (own_ne hrow h.az (by decide))⟩
  · rcases hrow.2 with ⟨rfl, _⟩ | ⟨g, cap, cur, rfl, _, hgb, _⟩
    · simp [Value.ownBlock] at ej
    · obtain rfl : g = j := by simpa [Value.ownBlock] using ej
      rw [hgb] at hj; cases hj; rfl
  · exact (hrow.lt j ej).1
theorem Fr.store (h : Fr base B1 Bx x cz cs v W1 W) (v' : Value) : Fr base B1 Bx x cz cs v' W1 (W.setCell ⟨B1, 0, none⟩ v') := by
  have ha : Arr W B1 36 #[v] := h.ab
  obtain ⟨c, t, h1, h2⟩ := h.xt
  have n3 : x ≠ B1 := Arr.ne (show Arr W x t c from h1) ha (by rcases h2 with rfl | rfl <;> decide)
  have n2 : Bx ≠ B1 := Arr.ne h.ax ha (by decide)
  have e := Below.heap_setCell W ⟨B1, 0, none⟩ v' x n3
  exact ⟨h.ko.trans (KeepsOthers.setCell W _ _), h.bl.setCell h.hb _, e.trans h.xh, ⟨c, t, e.trans h1, h2⟩, h.ab.set v', h.ax.far (fun e => n2 e.symm) _, h.hb, h.az.far (by simp) _⟩
theorem own_store {m : Nat} {xs : List Value} {u : Value} (h : Fr base B1 Bx x cz cs v W1 W) (hrow : W.ownsRow base 5 1 u m xs) (v' : Value) : (W.setCell ⟨B1, 0, none⟩ v').ownsRow base 5 1 u m xs :=
  own_far hrow (own_ne hrow (show Arr W B1 36 #[v] from h.ab) (by decide)) v'
theorem own_call {m : Nat} {xs : List Value} {u : Value} (hrow : W.ownsRow base 5 1 u m xs) (k : Below W.heap.size W W') : W'.ownsRow base 5 1 u m xs :=
  own_kp hrow (Kp.none_of_below (S := fun _ => False) k) (fun _ _ h => h)
end

theorem own_app {base2 m2 : Nat} {xs2 : List Value} {u2 u : Value} {W W' : World} (h2 : W.ownsRow base2 5 1 u2 m2 xs2) (hg : W.grownBy W' u.ownBlock) (hlt : ∀ j, u.ownBlock = some j → j < base2) : W'.ownsRow base2 5 1 u2 m2 xs2 :=
  own_kp h2 (((Kp.refl (fun x => u.ownBlock = some x) W).grown hg (fun _ _ e => e))) (fun x hx e => by have := hlt x e; have := (h2.lt x hx).1; omega)
/-- A stage of a round of Pack: the box holds the bytes l1. -/
def St (base B1 Bx x : Nat) (cz cs : Array Value) (W : World) (l1 : List Nat) (w1 : World) : Prop :=
  ∃ g cap, Fr base B1 Bx x cz cs (.slice (some ⟨g, 0, none⟩) l1.length cap) W w1 ∧ w1.ownsRow base 5 1 (.slice (some ⟨g, 0, none⟩) l1.length cap) l1.length (l1.map bv)
theorem St.mk {base B1 Bx x : Nat} {cz cs : Array Value} {W w1 : World} {l1 : List Nat} {m g cap : Nat} {xs : List Value} (hF : Fr base B1 Bx x cz cs (.slice (some ⟨g, 0, none⟩) m cap) W w1)
    (hrow : w1.ownsRow base 5 1 (.slice (some ⟨g, 0, none⟩) m cap) m xs) (hm : m = l1.length) (hx : xs = l1.map bv) : St base B1 Bx x cz cs W l1 w1 := by
  subst hm; subst hx
  exact ⟨g, cap, hF, hrow⟩

/-- 'append(b, s...)' at a step. -/
theorem wp_append_str {P : Program} {w : World} {o : Oper} {a : Act} {K : Act → World → Prop} {Q : Exit → Act → World → Prop} (sl x : Operand) (t u : TypeId)
    (ho : o.op = .call { callee := .builtin .append, args := #[sl, x], argTypes := #[t, u] })
    (base : Nat) (e : TypeId) (i : TypeInfo) (ht : P.underlying t = some (.slice e)) (hu : P.underlying u = some .string) (hi : P.info? e = some i) (hz : i.zero = some (.int .u8 0))
    (hsize : i.size = 1) (hby : i.bytes = 1)
    (v : Value) (n : Nat) (xs : List Value) (hs : a.eval sl = v) (hown : w.ownsRow base e 1 v n xs) (s : ByteArray) (hx : a.eval x = .string s) (hn : 0 < n)
    (h63 : n + s.size ≤ maxLen) (hbytes : n + s.size ≤ 140737488355328) (hbase : base ≤ w.heap.size)
    (h : ∀ g cap w', w'.ownsRow base e 1 (.slice (some ⟨g, 0, none⟩) (n + s.size) cap) (n + s.size) (xs ++ Lib.strCells s) → w.grownBy w' v.ownBlock → K (a.put o.dst (.slice (some ⟨g, 0, none⟩) (n + s.size) cap)) w') : o.wp P a w K Q := by
  obtain ⟨v', w', hr, h2, h3, h4⟩ := Lib.run_append_own_string (P := P) w base t u o.type e i ht hu hi hz hsize hby v n xs hown s h63 hbytes hbase
  obtain ⟨g, cap, _, rfl, _⟩ := own_form h2 (by omega)
  unfold Oper.wp execOp
  simp only [ho, resolve, invoke, builtin, Sem.run_bind, Sem.run_pure, Result.andThen_ok, List.map_toArray, List.map_cons, List.map_nil, hs, hx, hr]
  exact h g cap w' h2 h3
theorem step_append_str {P : Program} {w : World} {ops : Array Oper} {o : Oper} {a : Act} {K : Act → World → Prop} {Q : Exit → Act → World → Prop} {E : Prop} (hgd : o.guard = none) (sl x : Operand) (t u : TypeId)
    (ho : o.op = .call { callee := .builtin .append, args := #[sl, x], argTypes := #[t, u] })
    (base : Nat) (e : TypeId) (i : TypeInfo) (ht : P.underlying t = some (.slice e)) (hu : P.underlying u = some .string) (hi : P.info? e = some i) (hz : i.zero = some (.int .u8 0))
    (hsize : i.size = 1) (hby : i.bytes = 1)
    (v : Value) (n : Nat) (xs : List Value) (hs : a.eval sl = v) (hown : w.ownsRow base e 1 v n xs) (s : ByteArray) (hx : a.eval x = .string s) (hn : 0 < n)
    (h63 : n + s.size ≤ maxLen) (hbytes : n + s.size ≤ 140737488355328) (hbase : base ≤ w.heap.size)
    (h : ∀ g cap w', w'.ownsRow base e 1 (.slice (some ⟨g, 0, none⟩) (n + s.size) cap) (n + s.size) (xs ++ Lib.strCells s) → w.grownBy w' v.ownBlock → K (a.put o.dst (.slice (some ⟨g, 0, none⟩) (n + s.size) cap)) w') :
    if Region.wanted o (yielded ops a.tmps) = true then Oper.wp P o a w K Q else E := by
  have hw : Region.wanted o (yielded ops a.tmps) = true := by simp [Region.wanted, hgd]
  rw [if_pos hw]
  exact wp_append_str sl x t u ho base e i ht hu hi hz hsize hby v n xs hs hown s hx hn h63 hbytes hbase h
end Go.Proofs.Ytghklmhmhekjgaa
