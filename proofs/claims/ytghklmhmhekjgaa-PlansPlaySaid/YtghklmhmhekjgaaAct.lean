/- What Active tells of a table. Conditions: at most 1000 plans. -/
import Derived.Test.YtghklmhmhekjgaaIter
namespace Go.Proofs.Ytghklmhmhekjgaa
open Go.RowKit Go.Maps Go.Shelf
attribute [local go_sem] Oper.semAt_some

/-- One plan more. -/
def actS (now : Int) (n : Int) (p : Pl) : Int := if p.f ≤ now ∧ now < p.t then max n p.r else n
/-- The greatest of the plans that are on. -/
def actv (now : Int) (L : List Pl) : Int := L.foldl (actS now) 0
theorem act_succ (now : Int) {L : List Pl} {k : Nat} {p : Pl} (h : L[k]? = some p) : actv now (L.take (k + 1)) = actS now (actv now (L.take k)) p := by
  unfold actv
  rw [List.take_add_one, h, List.foldl_append]
  rfl

theorem Arr.putObj {w : World} {g : Nat} {t : TypeId} {cs : Array Value} (h : Arr w g t cs) {r : Nat} {o o' : Obj} (hr : w.heap[r]? = some o) (ho : o.isCells = false) : Arr (w.putObj r o') g t cs := by
  refine h.grown (grownBy_putObj' w r o') ?_
  intro e
  injection e with e
  subst e
  have h1 : w.heap[r]? = some (.cells cs t (0, 0)) := h
  rw [h1] at hr
  injection hr with hr
  subst hr
  cases ho
theorem Tb.putObj {w : World} {T b : Nat} {L : List Pl} (h : Tb w T b L) {r : Nat} (o' : Obj) (h1 : T < r) (h2 : b < r) : Tb (w.putObj r o') T b L :=
  h.keep (World.putObj_heap_other (by omega)) (World.putObj_heap_other (by omega))

set_option maxRecDepth 100000 in
set_option maxHeartbeats 4000000 in
theorem active12 (T b : Nat) (now : Int) (L : List Pl) (w : World) (hT : Tb w T b L) (hL : L.length ≤ 1000) :
    Calls Try.prog 12 #[.pointer (some ⟨T, 0, none⟩), .int .i64 now] w fun e w' => e = .returned (.int .i64 (actv now L)) ∧ Below w.heap.size w w' := by
  refine (callsIn_wide (n := 10)).1 ?_
  have hlt := hT.lt
  refine callsIn_of_wp_marks Try.func12 rfl trivial ?_ rfl
  simp only [Try.ntmps12, List.size_toArray, List.length_cons, List.length_nil, Nat.reduceAdd, Nat.reduceSub, Array.replicate_succ, Array.replicate_zero, List.push_toArray, List.append_toArray, List.nil_append, List.cons_append]
  gi_wp2_with (refine ⟨trivial, ?_⟩; gi_at_call 26; refine (all26 _ _ _).mono ?_; rintro e w' ⟨rfl, rfl⟩)
  obtain ⟨W0, hW0⟩ : ∃ W0, W0 = ((w.alloc (.cells #[.int .i64 now] 3)).alloc (.cells #[.int .i64 0] 3)).alloc (.cells #[.pointer (some ⟨T, 0, none⟩)] 24) := ⟨_, rfl⟩
  have hsz : W0.heap.size = w.heap.size + 3 := by rw [hW0]; simp
  have hb0 : Below w.heap.size w W0 := by rw [hW0]; exact (((Below.refl _ w).alloc (Nat.le_refl _) _).alloc (by simp) _).alloc (by simp; omega) _
  have hA0 : Arr W0 w.heap.size 3 #[.int .i64 now] := by rw [hW0]; exact ((Arr.new w 3 _).alloc _).alloc _
  have hA1 : Arr W0 (w.heap.size + 1) 3 #[.int .i64 0] := by
    rw [hW0]; have := (Arr.new (w.alloc (.cells #[.int .i64 now] 3)) 3 #[.int .i64 0]).alloc (.cells #[.pointer (some ⟨T, 0, none⟩)] 24); rwa [World.size_alloc] at this
  have hA2 : Arr W0 (w.heap.size + 2) 24 #[.pointer (some ⟨T, 0, none⟩)] := by
    rw [hW0]; have := Arr.new ((w.alloc (.cells #[.int .i64 now] 3)).alloc (.cells #[.int .i64 0] 3)) 24 #[.pointer (some ⟨T, 0, none⟩)]; rwa [World.size_alloc, World.size_alloc] at this
  have hT0 := hT.below hb0 hlt.1 hlt.2
  rw [← hW0]
  clear hW0
  refine wpIn_rangeEach rfl (by omega) 40 #[.pointer (some ⟨w.heap.size + 2, 0, none⟩)] rfl trivial (enters_of Try.func40 (by kernel_rfl) rfl) (fun k => plv (nth L k)) L.length
    (fun x k W => (Arr W (w.heap.size + 1) 3 #[.int .i64 (actv now (L.take k))] ∧ Arr W w.heap.size 3 #[.int .i64 now] ∧ Arr W (w.heap.size + 2) 24 #[.pointer (some ⟨T, 0, none⟩)] ∧ Tb W T b L) ∧ Below w.heap.size w W ∧ W0.heap.size ≤ W.heap.size ∧ W0.heap.size ≤ x ∧ x < W.heap.size)
    (fun k a' W => ∃ Bx, W0.heap.size ≤ Bx ∧ Arr W Bx 27 #[.string (nth L k).n, .int .i64 (nth L k).f, .int .i64 (nth L k).t, .int .i64 (nth L k).r] ∧ a' = { tmps := #[.pointer (some ⟨T, 0, none⟩), .int .i64 now, undef, .pointer (some ⟨w.heap.size, 0, none⟩), .int .i64 0, .pointer (some ⟨w.heap.size + 1, 0, none⟩), .pointer (some ⟨Bx, 0, none⟩), .pointer (some ⟨T, 0, none⟩), .func (.func 40) #[] #[.pointer (some ⟨w.heap.size + 2, 0, none⟩)], plv (nth L k), undef, undef, undef, undef, undef, undef, undef, undef, undef, undef, undef, undef, undef, undef, undef], defers := [] })
    ?hI ?hAx ?h0 ?hiter ?assign ?body ?done
  case hI =>
    rintro x k W r o o' ⟨⟨h1, h2, h3, h4⟩, hb, hs, hx, hxl⟩ hr ho hoc
    exact ⟨⟨h1.putObj ho hoc, h2.putObj ho hoc, h3.putObj ho hoc, h4.putObj o' (by omega) (by omega)⟩, hb.grown (grownBy_putObj' W r o') hb.size (fun x e => by injection e with e; omega), by simpa using hs, hx, by simpa using hxl⟩
  case hAx =>
    rintro k a' W r o o' ⟨Bx, h1, h2, rfl⟩ hr ho hoc
    exact ⟨Bx, h1, h2.putObj ho hoc, rfl⟩
  case h0 =>
    intro x W hb hx hxt
    have hxl := lt_of_cells hxt
    exact ⟨⟨hA1.below hb (by omega), hA0.below hb (by omega), hA2.below hb (by omega), hT0.below hb (by omega) (by omega)⟩, hb0.trans (hb.mono hb0.size), hb.size, hx, hxl⟩
  case hiter =>
    refine all1_hands _ (by omega) (w.heap.size + 2) T b L _ W0 (by omega) (hA2.at_ rfl) hT0 hL ?_
    rintro x k W ⟨⟨_, _, h3, h4⟩, _⟩
    exact ⟨h3.at_ rfl, L, h4, fun j p _ hj => List.mem_of_getElem? hj⟩
  case assign =>
    rintro l x k W K hl ⟨⟨h1, h2, h3, h4⟩, hb, hs, hx, hxl⟩ hk hK
    dsimp only
    unfold plv at hK ⊢
    gi_wp2
    exact hK _ _ ((KeepsOthers.alloc W _).from _) (Below.heap_alloc _ _ _ hxl) ⟨⟨h1.alloc _, h2.alloc _, h3.alloc _, h4.below ((Below.refl _ W).alloc (Nat.le_refl _) _) h4.lt.1 h4.lt.2⟩, hb.alloc hb.size _, by simp; omega, hx, by simp; omega⟩ ⟨W.heap.size, hs, Arr.new W 27 _, rfl⟩
  case body =>
    rintro l x k a' W hl ⟨⟨h1, h2, h3, h4⟩, hb, hs, hx, hxl⟩ ⟨Bx, hBx, hBA, rfl⟩ hk
    have hp : L[k]? = some (nth L k) := by unfold nth; rw [List.getD_eq_getElem?_getD, List.getElem?_eq_getElem hk]; rfl
    have hsc := act_succ now hp
    unfold actS at hsc
    obtain ⟨p, hpe⟩ : ∃ p, p = nth L k := ⟨_, rfl⟩
    rw [← hpe] at hBA hsc
    clear hpe hp
    obtain ⟨f, hf⟩ : ∃ f, f = p.f := ⟨_, rfl⟩
    obtain ⟨t, ht⟩ : ∃ t, t = p.t := ⟨_, rfl⟩
    obtain ⟨r, hr⟩ : ∃ r, r = p.r := ⟨_, rfl⟩
    obtain ⟨v, hv⟩ : ∃ v, v = actv now (L.take k) := ⟨_, rfl⟩
    rw [← hf, ← ht, ← hr] at hBA hsc
    rw [← hv] at h1 hsc
    have c1 : W.cell? ⟨Bx, 1, none⟩ = some (.int .i64 f) := hBA.at_ rfl
    have c2 : W.cell? ⟨Bx, 2, none⟩ = some (.int .i64 t) := hBA.at_ rfl
    have c3 : W.cell? ⟨Bx, 3, none⟩ = some (.int .i64 r) := hBA.at_ rfl
    have cn : W.cell? ⟨w.heap.size, 0, none⟩ = some (.int .i64 now) := h2.at_ rfl
    have cv : W.cell? ⟨w.heap.size + 1, 0, none⟩ = some (.int .i64 v) := h1.at_ rfl
    have cf : W.frozen? ⟨w.heap.size + 1, 0, none⟩ = false := h1.frozen 0
    have HS := Lib.hid hsc
    have hd : 1 ≤ 10 - 1 - 1 := by omega
    clear hsc hf ht hr hv hBA
    by_cases hfn : f ≤ now
    · by_cases htn : now < t
      · have d2 : decide (now < t) = true := decide_eq_true htn
        have HF := Lib.hid (And.intro hfn htn)
        gi_wp2
        have h5 := HS.out
        rw [if_pos ⟨by have := HF.out; omega, by have := HF.out; omega⟩] at h5
        refine ⟨(KeepsOthers.setCell W _ _).from _, Below.heap_setCell W _ _ x (by simp; omega), ⟨⟨?_, h2.far (by simp) _, h3.far (by simp) _, h4.below ((Below.refl w.heap.size W).setCell (by simp) _) hlt.1 hlt.2⟩, hb.setCell (by simp) _, by simp; omega, by omega, by simp; omega⟩⟩
        rw [h5]
        exact h1.set 0 (.int .i64 (max v r))
      · have d2 : decide (now < t) = false := decide_eq_false htn
        have HF := Lib.hid htn
        gi_wp2
        have h5 := HS.out
        rw [if_neg (fun h => by have := HF.out; omega)] at h5
        exact ⟨(KeepsOthers.refl W).from _, rfl, ⟨⟨by rw [h5]; exact h1, h2, h3, h4⟩, hb, by omega, by omega, hxl⟩⟩
    · have d1 : decide (f ≤ now) = false := decide_eq_false hfn
      have HF := Lib.hid hfn
      gi_wp2
      have h5 := HS.out
      rw [if_neg (fun h => by have := HF.out; omega)] at h5
      exact ⟨(KeepsOthers.refl W).from _, rfl, ⟨⟨by rw [h5]; exact h1, h2, h3, h4⟩, hb, by omega, by omega, hxl⟩⟩
  case done =>
    rintro D x W hD ⟨⟨h1, _, _, _⟩, hb, hs, _⟩ hK
    rw [List.take_length] at h1
    have cv : W.cell? ⟨w.heap.size + 1, 0, none⟩ = some (.int .i64 (actv now L)) := h1.at_ rfl
    have HX := Lib.hid (And.intro hD (And.intro hb hs))
    gi_wp2
    refine ⟨by simp, .inl ⟨_, _, rfl, run_takeDeferred hK, ?_⟩⟩
    exact ⟨_, results_tmp rfl _ _ _, rfl, HX.out.2.1.grown (grownBy_putObj' W _ _) HX.out.2.1.size (fun r e => by injection e with e; have := HX.out.1; omega)⟩
end Go.Proofs.Ytghklmhmhekjgaa
