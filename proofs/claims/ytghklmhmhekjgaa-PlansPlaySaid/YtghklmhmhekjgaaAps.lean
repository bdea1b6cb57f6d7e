/- A plan laid into a rising list, plainly; a slice of plans appended. No conditions. -/
import Derived.Test.YtghklmhmhekjgaaOpenP
import Derived.Test.YtghklmhmhekjgaaTput
import Derived.Deep.AppendSrc
namespace Go.Proofs.Ytghklmhmhekjgaa
open Go.RowKit

/-- The model's order of texts is that of the names. -/
theorem less_bb : ∀ x y : List UInt8, Op.bytesLess x y = bytesBefore x y
  | [], [] => rfl
  | [], _ :: _ => rfl
  | _ :: _, [] => rfl
  | a :: x, b :: y => by rw [Op.bytesLess, bytesBefore, less_bb x y]
theorem nm_toList (p : Pl) : p.n.toList = p.nm := ByteArray.toList_eq _
theorem less_nm (p q : Pl) : Op.bytesLess p.n.toList q.n.toList = bytesBefore p.nm q.nm := by rw [less_bb, nm_toList, nm_toList]
theorem bb_irrefl (x : List UInt8) : bytesBefore x x = false := by
  rw [bb_lt]; exact decide_eq_false (List.lt_irrefl _)
theorem bb_asymm {x y : List UInt8} (h : bytesBefore x y = true) : bytesBefore y x = false := by
  cases hh : bytesBefore y x with
  | false => rfl
  | true => have := WideShapes.bytes_trans _ _ _ h hh; rw [bb_irrefl] at this; cases this
theorem bb_ne {x y : List UInt8} (h : bytesBefore x y = true) : x ≠ y := by
  rintro rfl; rw [bb_irrefl] at h; cases h
theorem bb_tri (x y : List UInt8) : bytesBefore x y = true ∨ x = y ∨ bytesBefore y x = true := by
  rw [bb_lt, bb_lt]
  by_cases h : x < y
  · exact .inl (decide_eq_true h)
  · by_cases k : y < x
    · exact .inr (.inr (decide_eq_true k))
    · refine .inr (.inl ?_)
      have h1 : y ≤ x := h
      have h2 : x ≤ y := k
      exact List.le_antisymm h2 h1
theorem nm_inj {p q : Pl} (h : p.n.toList = q.n.toList) : p.n = q.n := by
  rw [ByteArray.toList_eq, ByteArray.toList_eq] at h
  have e : p.n.data = q.n.data := Array.toList_inj.1 h
  cases h1 : p.n; cases h2 : q.n
  rw [h1, h2] at e
  exact congrArg ByteArray.mk e

theorem insp_front {p : Pl} : ∀ {L : List Pl}, (∀ q ∈ L, bytesBefore p.nm q.nm = true) → insp p L = p :: L
  | [], _ => rfl
  | q :: r, h => by unfold insp; rw [if_pos (h q (List.mem_cons_self ..))]
theorem insp_mid {p : Pl} : ∀ {A B : List Pl}, (∀ q ∈ A, bytesBefore q.nm p.nm = true) → (∀ q ∈ B, bytesBefore p.nm q.nm = true) → insp p (A ++ B) = A ++ p :: B
  | [], B, _, h => insp_front h
  | a :: A, B, ha, h => by
    show insp p (a :: (A ++ B)) = _
    unfold insp
    rw [if_neg (by rw [bb_asymm (ha a (List.mem_cons_self ..))]; decide), insp_mid (fun q hq => ha q (List.mem_cons_of_mem _ hq)) h]
    rfl
theorem hasp_no {n : List UInt8} {L : List Pl} (h : ∀ q ∈ L, q.nm ≠ n) : hasp n L = false := by
  unfold hasp
  rw [List.any_eq_false]
  intro q hq
  simpa using h q hq
/-- A new name. -/
theorem put_new {p : Pl} {A B : List Pl} (ha : ∀ q ∈ A, bytesBefore q.nm p.nm = true) (hb : ∀ q ∈ B, bytesBefore p.nm q.nm = true) : hasp p.nm (A ++ B) = false ∧ putp p (A ++ B) = A ++ p :: B := by
  have h : hasp p.nm (A ++ B) = false := hasp_no fun q hq => by
    rcases List.mem_append.1 hq with hq | hq
    · exact bb_ne (ha q hq)
    · exact (bb_ne (hb q hq)).symm
  exact ⟨h, by unfold putp; rw [delp_id h, insp_mid ha hb]⟩
/-- A name that is there. -/
theorem put_old {p y : Pl} {A B : List Pl} (ha : ∀ q ∈ A, bytesBefore q.nm p.nm = true) (he : y.nm = p.nm) (hb : ∀ q ∈ B, bytesBefore p.nm q.nm = true) : hasp p.nm (A ++ y :: B) = true ∧ putp p (A ++ y :: B) = A ++ p :: B := by
  constructor
  · unfold hasp
    rw [List.any_eq_true]
    exact ⟨y, by simp, by simpa using he⟩
  · unfold putp delp
    rw [List.filter_append, List.filter_cons, if_neg (by simp [he])]
    have e1 : A.filter (fun q => !(q.nm == p.nm)) = A := List.filter_eq_self.2 fun q hq => by simpa using bb_ne (ha q hq)
    have e2 : B.filter (fun q => !(q.nm == p.nm)) = B := List.filter_eq_self.2 fun q hq => by simpa using (bb_ne (hb q hq)).symm
    rw [e1, e2]
    exact insp_mid ha hb

theorem Pv.drewN {w : World} {B n : Nat} {A : Option Addr} {l : List Pl} (h : Pv w B A n l) (k : Nat) : Pv (w.drewN k) B A n l := h
theorem Pv.none_zero {w : World} {B n : Nat} {l : List Pl} (h : Pv w B none n l) : n = 0 ∧ l = [] := by
  have h0 : n = 0 := by
    rcases Nat.eq_zero_or_pos n with h0 | h0
    · exact h0
    · obtain ⟨_, _, e, _⟩ := h.2 h0; cases e
  exact ⟨h0, List.eq_nil_of_length_eq_zero (by rw [h.1, h0])⟩
theorem Pv.news {w : World} {B n : Nat} {ad : Addr} {l : List Pl} (h : Pv w B (some ad) n l) : ∀ j u, (pvs l)[j]? = some u → w.cell? (ad.add j) = some u := by
  intro j u hu
  have hn : 0 < n := by
    have := (List.getElem?_eq_some_iff.1 hu).1
    rw [pvs_len, h.1] at this
    omega
  obtain ⟨b, off, e, _, hc⟩ := h.2 hn
  injection e with e
  subst e
  have e : (⟨b, off, none⟩ : Addr).add j = ⟨b, off + j, none⟩ := by unfold Addr.add; split <;> simp_all
  rw [e]; exact hc j u hu
theorem Pv.any0 {n : Nat} (h : n = 0) (w : World) (B : Nat) (A : Option Addr) : Pv w B A n [] := by subst h; exact ⟨rfl, fun h => absurd h (by omega)⟩
theorem Pv.pre {w : World} {B n : Nat} {A : Option Addr} {p q : List Pl} (h : Pv w B A n (p ++ q)) : Pv w B A p.length p := by
  refine ⟨rfl, fun hp => ?_⟩
  have hn := h.1
  rw [List.length_append] at hn
  obtain ⟨b, off, e, hb, hc⟩ := h.2 (by omega)
  refine ⟨b, off, e, hb, fun j u hu => hc j u ?_⟩
  rw [pvs_append, List.getElem?_append_left (List.getElem?_eq_some_iff.1 hu).1]; exact hu
theorem Pv.post {w : World} {B n b off : Nat} {p q : List Pl} (h : Pv w B (some ⟨b, off, none⟩) n (p ++ q)) : Pv w B (some ⟨b, off + p.length * 4, none⟩) q.length q := by
  refine ⟨rfl, fun hp => ?_⟩
  have hn := h.1
  rw [List.length_append] at hn
  obtain ⟨b', off', e, hb, hc⟩ := h.2 (by omega)
  injection e with e
  injection e with e1 e2
  subst e1; subst e2
  refine ⟨b, _, rfl, hb, fun j u hu => ?_⟩
  have := hc (p.length * 4 + j) u (by rw [pvs_append, List.getElem?_append_right (by rw [pvs_len]; omega), pvs_len]; rw [show p.length * 4 + j - 4 * p.length = j by omega]; exact hu)
  rw [Nat.add_assoc]; exact this
theorem run_append_pv {P : Program} (w : World) (base : Nat) (t ty e : TypeId) (i : TypeInfo) (z : Value) (bytes : Nat) (ht : P.underlying t = some (.slice e)) (hi : P.info? e = some i) (hz : i.zero = some z)
    (hsize : i.size = 4) (hby : i.bytes = bytes) (hzs : z.cells.size = 4) (v : Value) (n : Nat) (xs : List Value) (hown : w.ownsRow base e 4 v n xs)
    (A : Option Addr) (m c B : Nat) (l : List Pl) (hr : Pv w B A m l) (h63 : n + m ≤ maxLen) (hbytes : (n + m) * bytes ≤ 140737488355328) (hbase : base ≤ w.heap.size) :
    ∃ v' w', (Builtin.append_ #[t, t] ty #[v, .slice A m c]).run P w = .ok v' w' ∧ w'.ownsRow base e 4 v' (n + m) (xs ++ pvs l) ∧ w.grownBy w' v.ownBlock ∧ (v'.ownBlock = v.ownBlock ∨ v'.ownBlock = some w.heap.size) := by
  rcases A with _ | ad
  · obtain ⟨rfl, rfl⟩ := hr.none_zero
    refine ⟨v, w, ?_, by simpa [pvs] using hown, World.grownBy.refl w _, .inl rfl⟩
    rcases hown.2 with ⟨rfl, rfl⟩ | ⟨g, cap, cur, rfl, _, _, hnc, _⟩
    · simp [Builtin.append_, run_underlying ht, sizeOf, typeInfo, hi, Builtin.lenOf, Builtin.firstCells]
    · simp [Builtin.append_, run_underlying ht, sizeOf, typeInfo, hi, Builtin.lenOf, Builtin.firstCells, hnc, storeCells, loadCells]
  · obtain ⟨v', w', hrun, h2, h3, _, h5⟩ := run_append_own_at (P := P) w base t ty e i z 4 bytes ht hi hz hsize hby hzs (by omega) v n xs hown ad m c (pvs l) (by rw [pvs_len, hr.1, Nat.mul_comm]) hr.news (pvs_one l) h63 hbytes hbase
    exact ⟨v', w', hrun, h2, h3, h5⟩
theorem step_append_pv {P : Program} {w : World} {ops : Array Oper} {o : Oper} {a : Act} {K : Act → World → Prop} {Q : Exit → Act → World → Prop} {E : Prop} (hgd : o.guard = none) (s x : Operand) (t : TypeId)
    (ho : o.op = .call { callee := .builtin .append, args := #[s, x], argTypes := #[t, t] })
    (base : Nat) (e : TypeId) (i : TypeInfo) (z : Value) (bytes : Nat) (ht : P.underlying t = some (.slice e)) (hi : P.info? e = some i) (hz : i.zero = some z)
    (hsize : i.size = 4) (hby : i.bytes = bytes) (hzs : z.cells.size = 4) (v : Value) (n : Nat) (xs : List Value) (hs : a.eval s = v) (hown : w.ownsRow base e 4 v n xs)
    (A : Option Addr) (m c B : Nat) (l : List Pl) (hx : a.eval x = .slice A m c) (hr : Pv w B A m l) (h63 : n + m ≤ maxLen) (hbytes : (n + m) * bytes ≤ 140737488355328) (hbase : base ≤ w.heap.size)
    (h : ∀ v' w', w'.ownsRow base e 4 v' (n + m) (xs ++ pvs l) → w.grownBy w' v.ownBlock → (v'.ownBlock = v.ownBlock ∨ v'.ownBlock = some w.heap.size) → K (a.put o.dst v') w') :
    if Region.wanted o (yielded ops a.tmps) = true then Oper.wp P o a w K Q else E := by
  have hw : Region.wanted o (yielded ops a.tmps) = true := by simp [Region.wanted, hgd]
  rw [if_pos hw]
  obtain ⟨v', w', hrun, h2, h3, h4⟩ := run_append_pv (P := P) w base t o.type e i z bytes ht hi hz hsize hby hzs v n xs hown A m c B l hr h63 hbytes hbase
  unfold Oper.wp execOp
  simp only [ho, resolve, invoke, builtin, Sem.run_bind, Sem.run_pure, Result.andThen_ok, List.map_toArray, List.map_cons, List.map_nil, hs, hx, hrun]
  exact h v' w' h2 h3 h4
theorem wpList_append_pv {P : Program} {ops : Array Oper} {rest : List Oper} {o : Oper} {a : Act} {w : World} {Q : Exit → Act → World → Prop} (hgd : o.guard = none) (s x : Operand) (t : TypeId)
    (ho : o.op = .call { callee := .builtin .append, args := #[s, x], argTypes := #[t, t] })
    (base : Nat) (e : TypeId) (i : TypeInfo) (z : Value) (bytes : Nat) (ht : P.underlying t = some (.slice e)) (hi : P.info? e = some i) (hz : i.zero = some z)
    (hsize : i.size = 4) (hby : i.bytes = bytes) (hzs : z.cells.size = 4) (v : Value) (n : Nat) (xs : List Value) (hs : a.eval s = v) (hown : w.ownsRow base e 4 v n xs)
    (A : Option Addr) (m c B : Nat) (l : List Pl) (hx : a.eval x = .slice A m c) (hr : Pv w B A m l) (h63 : n + m ≤ maxLen) (hbytes : (n + m) * bytes ≤ 140737488355328) (hbase : base ≤ w.heap.size)
    (h : ∀ v' w', w'.ownsRow base e 4 v' (n + m) (xs ++ pvs l) → w.grownBy w' v.ownBlock → (v'.ownBlock = v.ownBlock ∨ v'.ownBlock = some w.heap.size) → wpList P ops Q rest (a.put o.dst v') w') : wpList P ops Q (o :: rest) a w := by
  refine wpList_plain hgd fun K hK => ?_
  obtain ⟨v', w', hrun, h2, h3, h4⟩ := run_append_pv (P := P) w base t o.type e i z bytes ht hi hz hsize hby hzs v n xs hown A m c B l hr h63 hbytes hbase
  unfold Oper.wp execOp
  simp only [ho, resolve, invoke, builtin, Sem.run_bind, Sem.run_pure, Result.andThen_ok, List.map_toArray, List.map_cons, List.map_nil, hs, hx, hrun]
  exact hK _ _ (h v' w' h2 h3 h4)
end Go.Proofs.Ytghklmhmhekjgaa
