/- A law of this seat as a row: what a walk has to show. And: the example of the document packs as it says. No conditions. -/
import Derived.Test.YtnbamngancchmaaPack
import Derived.ProofKit
import Derived.OpenShut
import Derived.SizedLaws
namespace Go.Proofs.Ytnbamngancchmaa
open Go.ChangeShapes Go.WideShapes Go.ChangeAt Go.RowKit PB PS

theorem Try.own : ownKnob Try.prog.godebug = none := by kernel_rfl
theorem Try.laidOut : laidOutB Try.prog = true := by kernel_rfl

section
variable {H : Type} {enc : TypeId × Value → H} {P : Program} {W W' : World}
/-- What came in reads as it did, where nothing that was there has turned. -/
theorem trodAll_below (hl : laidOutB P = true) (hb : Below W.heap.size W W') : ∀ (ts : List TypeId) (vs : List Value) (ds : List (DataW H)) (ps : List MemPlace),
    DataW.TrodAll enc P W 0 (fun _ => true) true ts vs ds ps → (ts.all fun t => P.readableRec t && decide (t < P.types.size)) = true → (∀ x ∈ ps, x.block < W.heap.size) →
    DataW.TrodAll enc P W' 0 (fun b => decide (b < W.heap.size)) true ts vs ds ps
  | [], [], [], _, h, _, _ => h
  | t :: ts, v :: vs, d :: ds, ps, h, hr, hlt => by
    obtain ⟨p, q, h1, h2, rfl⟩ := h
    simp only [List.all_cons, Bool.and_eq_true, decide_eq_true_eq] at hr
    exact ⟨p, q, Below.trod hl hr.1.1 hr.1.2 h1 hb (fun x hx => hlt x (List.mem_append_left _ hx)), trodAll_below hl hb ts vs ds q h2 hr.2 (fun x hx => hlt x (List.mem_append_right _ hx)), rfl⟩
  | [], _ :: _, _, _, h, _, _ => h.elim
  | [], [], _ :: _, _, h, _, _ => h.elim
  | _ :: _, [], _, _, h, _, _ => h.elim
  | _ :: _, _ :: _, [], _, h, _, _ => h.elim
/-- A law's row: it returns true, and nothing that was there has turned. -/
theorem law_post {f : Func} {s : ChangeSpec} {args : Array Value} {ds gs : List (DataW H)} {before : List MemPlace} {tb : TypeId}
    (hl : laidOutB P = true) (hr : (f.params.toList.all fun t => P.readableRec t && decide (t < P.types.size)) = true) (hv : s.vars = []) (ht : f.resultTypes = #[tb]) (hu : P.underlying tb = some .bool)
    (hW : DataW.Whole enc P f.params.toList s.vars false W args.toList ds gs before) (hfn : (s.fn H (ds ++ gs)).results = [.lit (.bool true)] ∧ (s.fn H (ds ++ gs)).args = ds ∧ (s.fn H (ds ++ gs)).vars = [])
    (hb : Below W.heap.size W W') : s.post enc P f false true false false W args (.bool true) W' := by
  have hW0 := hW
  obtain ⟨p, q, hA, hV, rfl, _, _⟩ := hW
  rw [hv] at hV
  obtain ⟨rfl, rfl⟩ := trodVars_none hV
  refine ⟨ds, [], p ++ [], [], p, [], hW0, ?_, ?_, ?_, hb.frame _, fun h => by cases h⟩
  · rw [hfn.1, ht]
    exact trodAll_cons_mk (shut_bool hu true) trodAll_mk0
  · rw [hfn.2.1]
    exact trodAll_below hl hb _ _ _ _ hA hr (fun x hx => hW0.lt x (List.mem_append_left _ hx))
  · rw [hfn.2.2, hv]
    rfl
end

/-! ### bytes as a text -/
def strN (l : List Nat) : ByteArray := strOfNums (l.map fun (n : Nat) => (n : Int))
theorem conv_rd {w : World} {B : Nat} {A : Option Addr} {n c : Nat} {l : List Nat} (h : Rd w B A n (l.map bv)) : (convert 24 9 (.slice A n c)).run Try.prog w = .ok (.string (strN l)) w := by
  have hl : l.length = n := by have := h.1; simpa using this
  rcases Nat.eq_zero_or_pos n with h0 | h0
  · subst h0
    have : l = [] := List.eq_nil_of_length_eq_zero hl
    subst this
    rw [run_convert_bytes_string w 24 9 5 A 0 c Try.underlying24 Try.underlying5 Try.underlying9]
    rcases A with _ | ad
    · simp [Conv.bytesToString]; rfl
    · simp [Conv.bytesToString, loadCells, loadCellsFrom]; rfl
  · obtain ⟨b, off, rfl, _, hc⟩ := h.2 h0
    refine run_convert_bytes_arg w 24 5 Try.underlying24 Try.underlying5 b off n c (l.map fun (n : Nat) => (n : Int)) (by simpa using hl) (fun i hi => hc i _ ?_) 9 Try.underlying9
    have hi2 : i < l.length := by omega
    simp [bv, List.getD, hi2]
theorem conv_own {w : World} {base n : Nat} {v : Value} {l : List Nat} (h : w.ownsRow base 5 1 v n (l.map bv)) : (convert 24 9 v).run Try.prog w = .ok (.string (strN l)) w := by
  obtain ⟨A, c, rfl, hr, _⟩ := Rd.of_own h
  exact conv_rd hr

theorem num14 (x : Int) (w : World) : Calls Try.prog 14 #[.int .i64 x] w fun e w' => e = .returned (.int .i64 x) ∧ w' = w := by
  go_enter Try.func14, Try.ntmps14
  go_wp2_with fail
  go_ret
  exact ⟨rfl, rfl⟩

theorem pack3 : packE [10, 20, 30] = 0 ∧ strN (packB [10, 20, 30]) = ⟨#[0, 0, 0, 0, 0, 0, 0, 10, 164, 128]⟩ := ⟨by kernel_rfl, by kernel_rfl⟩
set_option maxRecDepth 100000 in
theorem alive12 (w : World) : Calls Try.prog 12 #[] w fun e w' => e = .returned (.bool true) ∧ Below w.heap.size w w' := by
  obtain ⟨p1, p2⟩ := pack3
  have HP := Lib.hid p2
  clear p2
  have hr : Rd (w.alloc (.cells #[.int .i64 10, .int .i64 20, .int .i64 30] 3)) (w.heap.size + 1) (some ⟨w.heap.size, 0, none⟩) 3 (ints [10, 20, 30]) := by
    refine ⟨rfl, fun _ => ⟨_, _, rfl, by omega, fun j u hu => ?_⟩⟩
    rw [(Arr.new w 3 #[.int .i64 10, .int .i64 20, .int .i64 30]).cell, ← hu, Nat.zero_add]
    simp [ints]
  have hp := pack_any (some ⟨w.heap.size, 0, none⟩) 3 3 (w.heap.size + 1) [10, 20, 30] _ hr (by simp) (by omega)
  unfold PackPost at hp
  rw [p1] at hp
  clear hr p1
  go_enter Try.func12, Try.ntmps12
  go_wp2_with fail
  refine hp.mono ?_
  rintro e w1 ⟨v, rfl, hown, hb⟩
  have hcv := conv_own hown
  rw [HP.out] at hcv
  have HB := Lib.hid hb
  clear hown hb
  go_wp2_with (go_at_call 14; refine (num14 _ _).mono ?_; rintro e w' ⟨rfl, rfl⟩)
  go_ret
  exact ⟨rfl, ((Below.refl _ _).alloc (Nat.le_refl _) _).trans (HB.out.mono (by simp))⟩
end Go.Proofs.Ytnbamngancchmaa
