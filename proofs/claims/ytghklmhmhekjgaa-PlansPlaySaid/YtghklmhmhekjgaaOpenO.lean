/- Calls (rows of six cells) in a slice that came in: it reads as a list. No conditions. -/
import Derived.Test.YtghklmhmhekjgaaOpenP
namespace Go.Proofs.Ytghklmhmhekjgaa
open Go.ChangeShapes Go.WideShapes Go.ChangeAt Go.RowKit Go.Deep

/-- A call. -/
structure Opn where
  k : Int
  m : Int
  p : Pl
instance : Inhabited Opn := ⟨⟨0, 0, ⟨⟨#[]⟩, 0, 0, 0⟩⟩⟩
def ov (x : Opn) : List Value := [.int .i64 x.k, .int .i64 x.m, .string x.p.n, .int .i64 x.p.f, .int .i64 x.p.t, .int .i64 x.p.r]
theorem Try.cells48 : Try.prog.cellsOf 48 = 6 := by kernel_rfl
theorem Try.bytes48 : Try.prog.bytesOf 48 = 56 := by kernel_rfl
/-- A slice of calls (nil let in) reads as l, below block B. -/
def Ov (w : World) (B : Nat) (A : Option Addr) (n : Nat) (l : List Opn) : Prop :=
  l.length = n ∧ (0 < n → ∃ b off, A = some ⟨b, off, none⟩ ∧ b < B ∧ ∀ j x, l[j]? = some x → w.cell? ⟨b, off + j * 6, none⟩ = some (.int .i64 x.k) ∧ w.cell? ⟨b, off + j * 6 + 1, none⟩ = some (.int .i64 x.m) ∧ w.cell? ⟨b, off + j * 6 + 2, none⟩ = some (.string x.p.n) ∧
    w.cell? ⟨b, off + j * 6 + 3, none⟩ = some (.int .i64 x.p.f) ∧ w.cell? ⟨b, off + j * 6 + 4, none⟩ = some (.int .i64 x.p.t) ∧ w.cell? ⟨b, off + j * 6 + 5, none⟩ = some (.int .i64 x.p.r))
theorem Ov.below {w w' : World} {B : Nat} {A : Option Addr} {n : Nat} {l : List Opn} (h : Ov w B A n l) (hb : Below B w w') : Ov w' B A n l :=
  ⟨h.1, fun hn => by
    obtain ⟨b, off, e, hlt, hc⟩ := h.2 hn
    have hk : ∀ i, w'.cell? ⟨b, i, none⟩ = w.cell? ⟨b, i, none⟩ := fun i => hb.cell (p := ⟨b, i, none⟩) hlt
    refine ⟨b, off, e, hlt, fun j x hx => ?_⟩
    simp only [hk]
    exact hc j x hx⟩
/-- How many calls, how long names, may be read; the numbers are the machine's. -/
def FitO (n : Nat) (l : List Opn) : Prop := n ≤ 1000000000000000 ∧ ∀ x ∈ l, x.p.n.size ≤ 1000000000000000
set_option maxRecDepth 100000 in
theorem open_ov {H : Type} {enc : TypeId × Value → H} {W : World} {t base : Nat} {v : Value} {d : DataW H} {p : List MemPlace} (ht : Try.prog.underlying t = some (.slice 48))
    (hv : Value.okWide Try.prog W .any base t v) (h : DataW.Trod enc Try.prog W 0 (fun _ => true) true t v d p) (hlt : ∀ x ∈ p, x.block < W.heap.size) (hw : ∀ n ∈ d.weights Try.prog t, n ≤ reachBytes) :
    ∃ (A : Option Addr) (n c : Nat) (l : List Opn), v = .slice A n c ∧ Ov W W.heap.size A n l ∧ n ≤ c ∧ c ≤ maxLen ∧ FitO n l := by
  obtain ⟨A, n, c, rfl⟩ := okWide_slice ht hv
  obtain ⟨fuel, hf⟩ := h
  have hreach := reachBytes_lt
  have e47 : (2 : Nat) ^ 47 ≤ 1000000000000000 := by decide
  rcases open_slice ht hf with ⟨hc, hx⟩ | ⟨a, len, cap, m, k, D, Pq, hc, _, hl, hm, hmm, hx, hall⟩
  · simp [Value.cells] at hc
    obtain ⟨rfl, rfl, rfl⟩ := hc
    exact ⟨none, 0, 0, [], rfl, ⟨rfl, fun h => absurd h (by omega)⟩, Nat.le_refl _, by unfold maxLen; omega, by omega, by simp⟩
  · simp [Value.cells] at hc
    obtain ⟨rfl, rfl, rfl⟩ := hc
    simp only [if_true] at hmm
    subst hmm
    simp only [Prod.mk.injEq] at hx
    obtain ⟨hx1, hx2⟩ := hx
    have each : ∀ i, i < m → ∃ q : Opn, (W.cell? (a.add (i * 6)) = some (.int .i64 q.k) ∧ W.cell? (a.add (i * 6 + 1)) = some (.int .i64 q.m) ∧ W.cell? (a.add (i * 6 + 2)) = some (.string q.p.n) ∧ W.cell? (a.add (i * 6 + 3)) = some (.int .i64 q.p.f) ∧ W.cell? (a.add (i * 6 + 4)) = some (.int .i64 q.p.t) ∧ W.cell? (a.add (i * 6 + 5)) = some (.int .i64 q.p.r)) ∧
        ∃ y1 y2 y3 y4 y5, D i = .agg [y1, y2, .agg [.lit (.string q.p.n.data.toList), y3, y4, y5]] := by
      intro i hi
      obtain ⟨cs', h1, h2⟩ := hall i hi
      rw [Try.cells48] at h1
      obtain ⟨_, hlen, hcell⟩ := World.cells?_some h1
      obtain ⟨xs, k', hk, hxy, _, hxl, hf'⟩ := DataW.trod_struct Try.underlying48 h2
      match xs, hxl, cs', hlen with
      | [y0, y1, y2], _, [v0, v1, v2, v3, v4, v5], _ =>
        have g0 := hf' 0 _ rfl
        have g1 := hf' 1 _ rfl
        have g2 := hf' 2 _ rfl
        simp [Try.cells3, Try.cells27] at g0 g1 g2
        have c0 := hcell 0 (by omega)
        have c1 := hcell 1 (by omega)
        have c2 := hcell 2 (by omega)
        have c3 := hcell 3 (by omega)
        have c4 := hcell 4 (by omega)
        have c5 := hcell 5 (by omega)
        rw [add_add] at c0 c1 c2 c3 c4 c5
        simp only [Prod.mk.injEq] at hxy
        obtain ⟨N0, r0, _, _⟩ := DataW.trod_int Try.underlying3 g0
        obtain ⟨N1, r1, _, _⟩ := DataW.trod_int Try.underlying3 g1
        obtain ⟨zs', k2, hk2, hzy, _, hzl, hz'⟩ := DataW.trod_struct Try.underlying27 g2
        match zs', hzl with
        | [z0, z1, z2, z3], _ =>
          have j0 := hz' 0 _ rfl
          have j1 := hz' 1 _ rfl
          have j2 := hz' 2 _ rfl
          have j3 := hz' 3 _ rfl
          simp [Try.cells3, Try.cells9] at j0 j1 j2 j3
          obtain ⟨M0, s0, q0, _⟩ := DataW.trod_string Try.underlying9 j0
          obtain ⟨M1, s1, _, _⟩ := DataW.trod_int Try.underlying3 j1
          obtain ⟨M2, s2, _, _⟩ := DataW.trod_int Try.underlying3 j2
          obtain ⟨M3, s3, _, _⟩ := DataW.trod_int Try.underlying3 j3
          simp only [List.cons.injEq, and_true] at r0 r1 s0 s1 s2 s3
          subst r0; subst r1; subst s0; subst s1; subst s2; subst s3
          refine ⟨⟨N0, N1, ⟨M0, M1, M2, M3⟩⟩, ⟨by simpa using c0, by simpa using c1, by simpa using c2, by simpa using c3, by simpa using c4, by simpa using c5⟩, y0.1, y1.1, z1.1, z2.1, z3.1, ?_⟩
          rw [hxy.1]
          simp [hzy, q0]
    obtain ⟨q, hq⟩ := choose_lt each
    subst hx1
    have hwt : ∀ i, i < n → (q i).p.n.size ≤ reachBytes := fun i hi => by
      have hmem : ∀ z ∈ (D i).weights Try.prog 48, z ≤ reachBytes := fun z hz => by
        refine hw z ?_
        simp only [DataW.weights, ht]
        refine List.mem_cons_of_mem _ (List.mem_append_left _ (weightsAll_mem ?_ z hz))
        exact List.mem_map.2 ⟨i, List.mem_range.2 hi, rfl⟩
      obtain ⟨_, y1, y2, y3, y4, y5, hD⟩ := hq i (by omega)
      rw [hD] at hmem
      refine hmem _ ?_
      simp [DataW.weights, DataW.weightsEach, Try.underlying48, Try.underlying27]
    have hcap : n ≤ 1000000000000000 := by
      have := hw _ (by simp only [DataW.weights, ht]; exact List.mem_cons_self)
      rw [Try.bytes48] at this
      simp only [List.length_map, List.length_range] at this
      omega
    refine ⟨_, n, m, (List.range n).map q, rfl, ⟨by simp, fun hn => ?_⟩, hl, hm, hcap, ?_⟩
    · obtain ⟨b, off, spot⟩ := a
      have hspot : spot = none := by simpa [Addr.add] using World.cell?_spot (hq 0 (by omega)).1.1
      subst hspot
      refine ⟨b, off, rfl, ?_, fun j x hx => ?_⟩
      · have := hlt (.cell b off) (by rw [hx2, Try.cells48]; exact List.mem_append_left _ (MemPlace.mem_row.2 ⟨0, by omega, rfl⟩))
        exact this
      · have hj := (List.getElem?_eq_some_iff.1 hx).1
        rw [List.length_map, List.length_range] at hj
        rw [List.getElem?_map, List.getElem?_range hj] at hx
        injection hx with hx
        subst hx
        obtain ⟨⟨g0, g1, g2, g3, g4, g5⟩, _⟩ := hq j (by omega)
        rw [Go.WideShapes.add_plain] at g0 g1 g2 g3 g4 g5
        exact ⟨g0, g1, g2, g3, g4, g5⟩
    · intro z hz
      simp only [List.mem_map, List.mem_range] at hz
      obtain ⟨i, hi, rfl⟩ := hz
      have := hwt i hi
      omega
end Go.Proofs.Ytghklmhmhekjgaa
