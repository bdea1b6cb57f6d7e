/- Calls (rows of four cells) in a slice that came in: it reads as a list. No conditions. -/
import Derived.Test.YtedjfbkfaioihaaOpn
namespace Go.Proofs.Ytedjfbkfaioihaa
open Go.ChangeShapes Go.WideShapes Go.ChangeAt Go.RowKit Go.Deep

/-- A call: its kind, its names, its bytes, with their slice. -/
structure Opv where
  k : Int
  n : ByteArray
  m : ByteArray
  A : Option Addr
  c : Nat
  b : List Nat
instance : Inhabited Opv := ⟨⟨0, ⟨#[]⟩, ⟨#[]⟩, none, 0, []⟩⟩
/-- The call as a value. -/
def opv (x : Opv) : Value := .agg #[.int .i64 x.k, .string x.n, .string x.m, .slice x.A x.b.length x.c]
/-- Its bytes and names are as they may be. -/
structure OpOk (w : World) (B : Nat) (x : Opv) : Prop where
  rd : Rd w B x.A x.b.length (x.b.map bv)
  lt : ∀ y ∈ x.b, y < 256
  nc : x.b.length ≤ x.c
  cm : x.c ≤ maxLen
  kw : (Lit.int .i64 x.k).wf = true
  n : x.n.size ≤ 1000000000000000
  m : x.m.size ≤ 1000000000000000
theorem OpOk.below {w w' : World} {B : Nat} {x : Opv} (h : OpOk w B x) (hb : Below B w w') : OpOk w' B x := ⟨h.rd.below hb, h.lt, h.nc, h.cm, h.kw, h.n, h.m⟩
theorem Try.cells48 : Try.prog.cellsOf 48 = 4 := by kernel_rfl
theorem Try.cells9 : Try.prog.cellsOf 9 = 1 := by kernel_rfl
theorem Try.cells31 : Try.prog.cellsOf 31 = 1 := by kernel_rfl
theorem Try.bytes48 : Try.prog.bytesOf 48 = 64 := by kernel_rfl
theorem weightsAll_mem {H : Type} {P : Program} {e : TypeId} : ∀ {l : List (DataW H)} {d : DataW H}, d ∈ l → ∀ n ∈ d.weights P e, n ∈ DataW.weightsAll P e l
  | [], _, h, _, _ => by cases h
  | _ :: _, _, h, n, hn => by
    rw [DataW.weightsAll]
    rcases List.mem_cons.1 h with rfl | h
    · exact List.mem_append_left _ hn
    · exact List.mem_append_right _ (weightsAll_mem h n hn)
/-- A slice of calls (nil let in) reads as l, below block B. -/
def Ov (w : World) (B : Nat) (A : Option Addr) (n : Nat) (l : List Opv) : Prop :=
  l.length = n ∧ (∀ x ∈ l, OpOk w B x) ∧ (0 < n → ∃ b off, A = some ⟨b, off, none⟩ ∧ b < B ∧ ∀ j x, l[j]? = some x → w.cell? ⟨b, off + j * 4, none⟩ = some (.int .i64 x.k) ∧ w.cell? ⟨b, off + j * 4 + 1, none⟩ = some (.string x.n) ∧ w.cell? ⟨b, off + j * 4 + 2, none⟩ = some (.string x.m) ∧
    w.cell? ⟨b, off + j * 4 + 3, none⟩ = some (.slice x.A x.b.length x.c))
theorem Ov.below {w w' : World} {B : Nat} {A : Option Addr} {n : Nat} {l : List Opv} (h : Ov w B A n l) (hb : Below B w w') : Ov w' B A n l :=
  ⟨h.1, fun x hx => (h.2.1 x hx).below hb, fun hn => by
    obtain ⟨b, off, e, hlt, hc⟩ := h.2.2 hn
    have hk : ∀ i, w'.cell? ⟨b, i, none⟩ = w.cell? ⟨b, i, none⟩ := fun i => hb.cell (p := ⟨b, i, none⟩) hlt
    refine ⟨b, off, e, hlt, fun j x hx => ?_⟩
    simp only [hk]
    exact hc j x hx⟩
section
variable {H : Type} {enc : TypeId × Value → H} {W : World}
set_option maxRecDepth 100000 in
/-- A slice of numbers among other cells. -/
theorem open_rdc {t e : TypeId} {k : IntKind} {fuel : Nat} {cs : List Value} {x : DataW H × List MemPlace} (ht : Try.prog.underlying t = some (.slice e)) (he : Try.prog.underlying e = some (.int k)) (hc : Try.prog.cellsOf e = 1)
    (h : DataW.trod enc Try.prog W 0 (fun _ => true) true fuel t cs = some x) (hlt : ∀ p ∈ x.2, p.block < W.heap.size) :
    ∃ (A : Option Addr) (n c : Nat) (l : List Int), cs = [.slice A n c] ∧ Rd W W.heap.size A n (l.map (Value.int k)) ∧ n ≤ c ∧ c ≤ maxLen ∧ ∀ x ∈ l, (Lit.int k x).wf = true := by
  rcases open_ints ht he hc h with ⟨hcs, hx⟩ | ⟨a, n, c, zs, hcs, _, hl, hm, hz, hx, hcell, hwz⟩
  · exact ⟨none, 0, 0, [], hcs, Rd.nil_ _ _ _, Nat.le_refl _, by unfold maxLen; omega, by simp⟩
  · subst hx
    simp only [if_true] at hz
    refine ⟨some a, n, c, zs.take n, hcs, ⟨by simp; omega, fun hn => ?_⟩, hl, hm, fun x hx => hwz x (List.mem_of_mem_take hx)⟩
    obtain ⟨b, off, rfl, hcc⟩ := ints_at hcell (by omega)
    refine ⟨b, off, rfl, ?_, fun j u hu => ?_⟩
    · have := hlt (.cell b off) (MemPlace.mem_row.2 ⟨0, by omega, rfl⟩)
      exact this
    · rw [List.getElem?_map, Option.map_eq_some_iff] at hu
      obtain ⟨y, hy, rfl⟩ := hu
      have hj := (List.getElem?_eq_some_iff.1 hy).1
      rw [List.length_take] at hj
      rw [List.getElem?_take_of_lt (by omega)] at hy
      rw [hcc j (by omega)]
      simp [List.getD, hy]
set_option maxRecDepth 100000 in
/-- One call. -/
theorem open_opc {fuel : Nat} {cs : List Value} {x : DataW H × List MemPlace} (h : DataW.trod enc Try.prog W 0 (fun _ => true) true fuel 48 cs = some x) (hlt : ∀ p ∈ x.2, p.block < W.heap.size) (hw : ∀ n ∈ x.1.weights Try.prog 48, n ≤ reachBytes) :
    ∃ q : Opv, cs = [.int .i64 q.k, .string q.n, .string q.m, .slice q.A q.b.length q.c] ∧ OpOk W W.heap.size q := by
  have hreach := reachBytes_lt
  have e47 : (2 : Nat) ^ 47 ≤ 1000000000000000 := by decide
  obtain ⟨xs, k', hk, hxy, hl, hxl, hf'⟩ := DataW.trod_struct Try.underlying48 h
  rw [Try.cells48] at hl
  match xs, hxl, cs, hl with
  | [y0, y1, y2, y3], _, [v0, v1, v2, v3], _ =>
    have g0 := hf' 0 _ rfl
    have g1 := hf' 1 _ rfl
    have g2 := hf' 2 _ rfl
    have g3 := hf' 3 _ rfl
    simp [Try.cells3, Try.cells9, Try.cells31] at g0 g1 g2 g3
    obtain ⟨N0, r0, _, q0⟩ := DataW.trod_int Try.underlying3 g0
    obtain ⟨N1, r1, d1, _⟩ := DataW.trod_string Try.underlying9 g1
    obtain ⟨N2, r2, d2, _⟩ := DataW.trod_string Try.underlying9 g2
    have hlt3 : ∀ p ∈ y3.2, p.block < W.heap.size := fun p hp => hlt p (by rw [hxy]; simp [hp])
    obtain ⟨A, n, c, l, r3, rd, nc, cm, wf⟩ := open_rdc Try.underlying31 Try.underlying5 Try.cells5 g3 hlt3
    obtain ⟨m, hm, lt⟩ := bytes_nat wf
    rw [hm] at rd
    have hml : m.length = n := by have := rd.1; simpa using this
    simp only [List.cons.injEq, and_true] at r0 r1 r2 r3
    subst r0; subst r1; subst r2; subst r3; subst hml
    rw [hxy] at hw
    refine ⟨⟨N0, N1, N2, A, c, m⟩, rfl, ⟨rd, lt, nc, cm, q0, ?_, ?_⟩⟩
    · have := hw N1.size (by simp [DataW.weights, DataW.weightsEach, Try.underlying48, d1])
      show N1.size ≤ _
      omega
    · have := hw N2.size (by simp [DataW.weights, DataW.weightsEach, Try.underlying48, d2])
      show N2.size ≤ _
      omega
set_option maxRecDepth 100000 in
theorem open_ov {t base : Nat} {v : Value} {d : DataW H} {p : List MemPlace} (ht : Try.prog.underlying t = some (.slice 48))
    (hv : Value.okWide Try.prog W .any base t v) (h : DataW.Trod enc Try.prog W 0 (fun _ => true) true t v d p) (hlt : ∀ x ∈ p, x.block < W.heap.size) (hw : ∀ n ∈ d.weights Try.prog t, n ≤ reachBytes) :
    ∃ (A : Option Addr) (n c : Nat) (l : List Opv), v = .slice A n c ∧ Ov W W.heap.size A n l ∧ n ≤ c ∧ c ≤ maxLen := by
  obtain ⟨A, n, c, rfl⟩ := okWide_slice ht hv
  obtain ⟨fuel, hf⟩ := h
  rcases open_slice ht hf with ⟨hc, hx⟩ | ⟨a, len, cap, m, k, D, Pq, hc, _, hl, hm, hmm, hx, hall⟩
  · simp [Value.cells] at hc
    obtain ⟨rfl, rfl, rfl⟩ := hc
    exact ⟨none, 0, 0, [], rfl, ⟨rfl, fun x hx => by (cases hx), fun h => absurd h (by omega)⟩, Nat.le_refl _, by unfold maxLen; omega⟩
  · simp [Value.cells] at hc
    obtain ⟨rfl, rfl, rfl⟩ := hc
    simp only [if_true] at hmm
    subst hmm
    simp only [Prod.mk.injEq] at hx
    obtain ⟨hx1, hx2⟩ := hx
    have each : ∀ i, i < m → ∃ q : Opv, (i < n → OpOk W W.heap.size q) ∧ (i < n → W.cell? (a.add (i * 4)) = some (.int .i64 q.k) ∧ W.cell? (a.add (i * 4 + 1)) = some (.string q.n) ∧ W.cell? (a.add (i * 4 + 2)) = some (.string q.m) ∧ W.cell? (a.add (i * 4 + 3)) = some (.slice q.A q.b.length q.c)) := by
      intro i hi
      by_cases hin : i < n
      · obtain ⟨cs', h1, h2⟩ := hall i hi
        rw [Try.cells48] at h1
        obtain ⟨_, hlen, hcell⟩ := World.cells?_some h1
        obtain ⟨q, rfl, hok⟩ := open_opc h2 (fun p hp => hlt p (by rw [hx2]; exact List.mem_append_right _ (List.mem_flatMap.2 ⟨i, List.mem_range.2 hi, hp⟩))) (fun z hz => by
          refine hw z ?_
          rw [hx1]
          simp only [DataW.weights, ht]
          refine List.mem_cons_of_mem _ (List.mem_append_left _ (weightsAll_mem ?_ z hz))
          exact List.mem_map.2 ⟨i, List.mem_range.2 hin, rfl⟩)
        have c0 := hcell 0 (by omega)
        have c1 := hcell 1 (by omega)
        have c2 := hcell 2 (by omega)
        have c3 := hcell 3 (by omega)
        rw [add_add] at c0 c1 c2 c3
        exact ⟨q, fun _ => hok, fun _ => ⟨by simpa using c0, by simpa using c1, by simpa using c2, by simpa using c3⟩⟩
      · exact ⟨default, fun h => absurd h hin, fun h => absurd h hin⟩
    obtain ⟨q, hq⟩ := choose_lt each
    refine ⟨_, n, m, (List.range n).map q, rfl, ⟨by simp, ?_, fun hn => ?_⟩, hl, hm⟩
    · intro z hz
      simp only [List.mem_map, List.mem_range] at hz
      obtain ⟨i, hi, rfl⟩ := hz
      exact (hq i (by omega)).1 hi
    · obtain ⟨b, off, spot⟩ := a
      have hspot : spot = none := by simpa [Addr.add] using World.cell?_spot ((hq 0 (by omega)).2 hn).1
      subst hspot
      refine ⟨b, off, rfl, ?_, fun j x hx => ?_⟩
      · have := hlt (.cell b off) (by rw [hx2, Try.cells48]; exact List.mem_append_left _ (MemPlace.mem_row.2 ⟨0, by omega, rfl⟩))
        exact this
      · have hj := (List.getElem?_eq_some_iff.1 hx).1
        rw [List.length_map, List.length_range] at hj
        rw [List.getElem?_map, List.getElem?_range hj] at hx
        injection hx with hx
        subst hx
        obtain ⟨g0, g1, g2, g3⟩ := (hq j (by omega)).2 hj
        rw [Go.WideShapes.add_plain] at g0 g1 g2 g3
        exact ⟨g0, g1, g2, g3⟩
end
end Go.Proofs.Ytedjfbkfaioihaa
