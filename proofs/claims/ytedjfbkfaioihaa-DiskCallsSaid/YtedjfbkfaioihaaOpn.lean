/- A law's row; bytes and numbers as arguments; bytes that are made. Conditions: at most 10^6 bytes made. -/
import Derived.Test.YtedjfbkfaioihaaSmall
import Derived.ProofKit
import Derived.OpenShut
import Derived.SizedLaws
import Derived.WideShapes
import Derived.Deep.SlicePairs
import Derived.Deep.OwnRows
namespace Go.Proofs.Ytedjfbkfaioihaa
open Go.ChangeShapes Go.WideShapes Go.ChangeAt Go.RowKit Go.Deep

theorem Try.own : ownKnob Try.prog.godebug = none := by kernel_rfl
theorem Try.laidOut : laidOutB Try.prog = true := by kernel_rfl

section
variable {H : Type} {enc : TypeId × Value → H} {P : Program} {W W' : World}
/-- What came in reads as it did, where nothing that was there has turned. -/
theorem trodAll_below (hl : laidOutB P = true) (hb : Below W.heap.size W W') : ∀ (ts : List TypeId) (vs : List Value) (ds : List (DataW H)) (ps : List MemPlace),
    DataW.TrodAll enc P W 0 (fun _ => true) true ts vs ds ps → (ts.all fun t => P.readableRec t && decide (t < P.types.size)) = true → (∀ x ∈ ps, x.block < W.heap.size) →
    DataW.TrodAll enc P W' 0 (fun b => decide (b < W.heap.size)) true ts vs ds ps
  | [], [], [], _, h, _, _ => h
  | t :: ts, v :: vs, d :: ds, ps, h, hr, hlt => by
    obtain ⟨p, q, h1, h2, rfl⟩ := h
    simp only [List.all_cons, Bool.and_eq_true, decide_eq_true_eq] at hr
    exact ⟨p, q, Below.trod hl hr.1.1 hr.1.2 h1 hb (fun x hx => hlt x (List.mem_append_left _ hx)), trodAll_below hl hb ts vs ds q h2 hr.2 (fun x hx => hlt x (List.mem_append_right _ hx)), rfl⟩
  | [], _ :: _, _, _, h, _, _ => h.elim
  | [], [], _ :: _, _, h, _, _ => h.elim
  | _ :: _, [], _, _, h, _, _ => h.elim
  | _ :: _, _ :: _, [], _, h, _, _ => h.elim
/-- A law's row: it returns true, and nothing that was there has turned. -/
theorem law_post {f : Func} {s : ChangeSpec} {args : Array Value} {ds gs : List (DataW H)} {before : List MemPlace} {tb : TypeId}
    (hl : laidOutB P = true) (hr : (f.params.toList.all fun t => P.readableRec t && decide (t < P.types.size)) = true) (hv : s.vars = []) (ht : f.resultTypes = #[tb]) (hu : P.underlying tb = some .bool)
    (hW : DataW.Whole enc P f.params.toList s.vars false W args.toList ds gs before) (hfn : (s.fn H (ds ++ gs)).results = [.lit (.bool true)] ∧ (s.fn H (ds ++ gs)).args = ds ∧ (s.fn H (ds ++ gs)).vars = [])
    (hb : Below W.heap.size W W') : s.post enc P f false true false false W args (.bool true) W' := by
  have hW0 := hW
  obtain ⟨p, q, hA, hV, rfl, _, _⟩ := hW
  rw [hv] at hV
  obtain ⟨rfl, rfl⟩ := trodVars_none hV
  refine ⟨ds, [], p ++ [], [], p, [], hW0, ?_, ?_, ?_, hb.frame _, fun h => by cases h⟩
  · rw [hfn.1, ht]
    exact trodAll_cons_mk (shut_bool hu true) trodAll_mk0
  · rw [hfn.2.1]
    exact trodAll_below hl hb _ _ _ _ hA hr (fun x hx => hW0.lt x (List.mem_append_left _ hx))
  · rw [hfn.2.2, hv]
    rfl
end

theorem Try.cells5 : Try.prog.cellsOf 5 = 1 := by kernel_rfl
theorem Try.info5 : (Try.prog.info? 5).map (fun i => (i.zero, i.size, i.bytes)) = some (some (.int .u8 0), 1, 1) := by kernel_rfl
theorem Try.cells3 : Try.prog.cellsOf 3 = 1 := by kernel_rfl
set_option maxRecDepth 100000 in
theorem open_rd {H : Type} {enc : TypeId × Value → H} {W : World} {t e base : Nat} {k : IntKind} {v : Value} {d : DataW H} {p : List MemPlace} (ht : Try.prog.underlying t = some (.slice e)) (he : Try.prog.underlying e = some (.int k)) (hc : Try.prog.cellsOf e = 1)
    (hv : Value.okWide Try.prog W .any base t v) (h : DataW.Trod enc Try.prog W 0 (fun _ => true) true t v d p) (hlt : ∀ x ∈ p, x.block < W.heap.size) :
    ∃ (A : Option Addr) (n c : Nat) (l : List Int), v = .slice A n c ∧ Rd W W.heap.size A n (l.map (Value.int k)) ∧ n ≤ c ∧ c ≤ maxLen ∧ ∀ x ∈ l, (Lit.int k x).wf = true := by
  obtain ⟨A, n, c, rfl⟩ := okWide_slice ht hv
  obtain ⟨fuel, hf⟩ := h
  rcases open_ints ht he hc hf with ⟨hcs, hx⟩ | ⟨a, len', cap', zs, hcs, _, hl, hm, hz, hx, hcell, hwz⟩
  · simp [Value.cells] at hcs
    obtain ⟨rfl, rfl, rfl⟩ := hcs
    exact ⟨none, 0, 0, [], rfl, Rd.nil_ _ _ _, Nat.le_refl _, by unfold maxLen; omega, by simp⟩
  · simp [Value.cells] at hcs
    obtain ⟨rfl, rfl, rfl⟩ := hcs
    simp only [Prod.mk.injEq] at hx
    obtain ⟨rfl, rfl⟩ := hx
    simp only [if_true] at hz
    refine ⟨_, n, c, zs.take n, rfl, ⟨by simp; omega, fun hn => ?_⟩, hl, hm, fun x hx => hwz x (List.mem_of_mem_take hx)⟩
    obtain ⟨b, off, rfl, hcc⟩ := ints_at hcell (by omega)
    refine ⟨b, off, rfl, ?_, fun j u hu => ?_⟩
    · have := hlt (.cell b off) (MemPlace.mem_row.2 ⟨0, by omega, rfl⟩)
      exact this
    · rw [List.getElem?_map, Option.map_eq_some_iff] at hu
      obtain ⟨y, hy, rfl⟩ := hu
      have hj := (List.getElem?_eq_some_iff.1 hy).1
      rw [List.length_take] at hj
      rw [List.getElem?_take_of_lt (by omega)] at hy
      rw [hcc j (by omega)]
      simp [List.getD, hy]
/-- Bytes as numbers. -/
theorem bytes_nat {l : List Int} (h : ∀ x ∈ l, (Lit.int .u8 x).wf = true) : ∃ m : List Nat, l.map (Value.int .u8) = m.map bv ∧ ∀ x ∈ m, x < 256 := by
  refine ⟨l.map Int.toNat, ?_, ?_⟩
  · rw [List.map_map]
    refine List.map_congr_left fun x hx => ?_
    have h5 := h x hx
    have e1 : IntKind.u8.min = 0 := rfl
    have e2 : IntKind.u8.max = 255 := rfl
    have : 0 ≤ x ∧ x ≤ 255 := by simpa [Lit.wf, e1, e2] using h5
    show _ = Value.int .u8 _
    rw [Int.toNat_of_nonneg this.1]
  · intro x hx
    obtain ⟨y, hy, rfl⟩ := List.mem_map.1 hx
    have h5 := h y hy
    have e1 : IntKind.u8.min = 0 := rfl
    have e2 : IntKind.u8.max = 255 := rfl
    have : 0 ≤ y ∧ y ≤ 255 := by simpa [Lit.wf, e1, e2] using h5
    omega
/-- Numbers as a crash's. -/
theorem Rd.ik {w : World} {B n : Nat} {A : Option Addr} {l : List Int} (h : Rd w B A n (l.map (Value.int .i64))) (hB : B ≤ w.heap.size) : Ik w (fun x => x < B) A n l := by
  refine ⟨by have := h.1; simpa using this, fun hn => ?_⟩
  obtain ⟨b, off, e, hb, hc⟩ := h.2 hn
  exact ⟨b, off, e, hb, Nat.lt_of_lt_of_le hb hB, fun j x hj => hc j _ (by rw [List.getElem?_map, hj]; rfl)⟩
/-- 'make' of bytes. -/
theorem Try.made (N : Nat) (hN : N ≤ 1000000) (w : World) : (Instr.makeSlice 31 (.int .i64 (N : Int)) (.int .i64 (N : Int))).run Try.prog w = .ok (.slice (some ⟨w.heap.size, 0, none⟩) N N) (w.alloc (.cells (madeCells #[.int .u8 0] N) 5)) :=
  run_make_row' (P := Try.prog) 31 5 (.int .u8 0) 1 Try.underlying31 Try.info5 rfl .i64 .i64 N (by omega) (by omega) w
def zeros (n : Nat) : List Nat := List.replicate n 0
theorem zeros_len (n : Nat) : (zeros n).length = n := by unfold zeros; simp
theorem zeros_lt (n : Nat) : ∀ y ∈ zeros n, y < 256 := by
  intro y hy
  have := List.eq_of_mem_replicate hy
  omega
theorem made_rd (w : World) (N : Nat) (hN : N ≤ 1000000) : Rd (w.alloc (.cells (madeCells #[.int .u8 0] N) 5)) (w.alloc (.cells (madeCells #[.int .u8 0] N) 5)).heap.size (some ⟨w.heap.size, 0, none⟩) N ((zeros N).map bv) := by
  have h := World.ownsRow_lit (base := w.heap.size) (e := 5) (size := 1) w (madeCells #[.int .u8 0] N) N (Nat.le_refl _) (by unfold maxLen; omega) (by rw [size_madeCells, Nat.mul_one])
  rw [toList_madeCells_one] at h
  obtain ⟨A, c, e, hr, _⟩ := Rd.of_own h
  injection e with e1 _ _
  rw [← e1] at hr
  have e : (zeros N).map bv = List.replicate N (.int .u8 0) := by unfold zeros; rw [List.map_replicate]; rfl
  rw [e]
  exact hr
end Go.Proofs.Ytedjfbkfaioihaa
