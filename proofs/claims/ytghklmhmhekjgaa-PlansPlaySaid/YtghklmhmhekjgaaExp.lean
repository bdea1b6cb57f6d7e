/- What Expire makes of a table. Conditions: at most 1000 plans. -/
import Derived.Test.YtghklmhmhekjgaaAct
namespace Go.Proofs.Ytghklmhmhekjgaa
open Go.RowKit Go.Maps Go.Shelf
attribute [local go_sem] Oper.semAt_some

/-- What is left at a time. -/
def expL (now : Int) (L : List Pl) : List Pl := L.filter fun p => decide (now < p.t)
/-- How many are over. -/
def expN (now : Int) (L : List Pl) : Nat := (L.filter fun p => decide (p.t ≤ now)).length
/-- When k are looked at. -/
def expTo (now : Int) (L : List Pl) (k : Nat) : List Pl := expL now (L.take k) ++ L.drop k
theorem expTo_end (now : Int) (L : List Pl) : expTo now L L.length = expL now L := by unfold expTo; rw [List.take_length, List.drop_length, List.append_nil]
theorem expTo_mem (now : Int) {L : List Pl} {k j : Nat} {p : Pl} (hk : k ≤ j) (h : L[j]? = some p) : p ∈ expTo now L k := by
  unfold expTo
  refine List.mem_append_right _ (List.mem_of_getElem? (i := j - k) ?_)
  rw [List.getElem?_drop, ← h]
  congr 1
  omega
theorem expN_le (now : Int) (L : List Pl) : expN now L ≤ L.length := List.length_filter_le _ _
theorem expN_succ (now : Int) {L : List Pl} {k : Nat} {p : Pl} (h : L[k]? = some p) : expN now (L.take (k + 1)) = expN now (L.take k) + if p.t ≤ now then 1 else 0 := by
  unfold expN
  rw [List.take_add_one, h, List.filter_append, List.length_append]
  congr 1
  by_cases hp : p.t ≤ now <;> simp [hp]
theorem drop_eq {L : List Pl} {k : Nat} {p : Pl} (h : L[k]? = some p) : L.drop k = p :: L.drop (k + 1) := by
  obtain ⟨hk, rfl⟩ := List.getElem?_eq_some_iff.1 h
  exact List.drop_eq_getElem_cons hk
theorem expTo_stay (now : Int) {L : List Pl} {k : Nat} {p : Pl} (h : L[k]? = some p) (hp : ¬ p.t ≤ now) : expTo now L (k + 1) = expTo now L k := by
  unfold expTo expL
  rw [drop_eq h, List.take_add_one, h, List.filter_append]
  have : decide (now < p.t) = true := decide_eq_true (by omega)
  simp [this]
theorem expTo_drop (now : Int) {L : List Pl} (hr : Ris L) {k : Nat} {p : Pl} (h : L[k]? = some p) (hp : p.t ≤ now) : expTo now L (k + 1) = delp p.nm (expTo now L k) := by
  have e : L = L.take k ++ p :: L.drop (k + 1) := by rw [← drop_eq h, List.take_append_drop]
  have hn := ris_nodup hr
  rw [e, List.pairwise_append] at hn
  obtain ⟨_, h2, h3⟩ := hn
  have h4 := (List.pairwise_cons.1 h2).1
  unfold expTo expL delp
  rw [drop_eq h, List.take_add_one, h, List.filter_append]
  have d : decide (now < p.t) = false := decide_eq_false (by omega)
  have a1 : ((L.take k).filter fun p => decide (now < p.t)).filter (fun q => !(q.nm == p.nm)) = (L.take k).filter fun p => decide (now < p.t) := by
    rw [List.filter_eq_self]
    intro q hq
    have := h3 q (List.mem_filter.1 hq).1 p (List.mem_cons_self ..)
    simpa using this
  have a2 : (L.drop (k + 1)).filter (fun q => !(q.nm == p.nm)) = L.drop (k + 1) := by
    rw [List.filter_eq_self]
    intro q hq
    have := h4 q hq
    simpa using fun e => this e.symm
  rw [List.filter_append, a1, List.filter_cons, a2]
  simp [d]

set_option maxRecDepth 100000 in
set_option maxHeartbeats 4000000 in
theorem expire21 (T b : Nat) (now : Int) (L : List Pl) (w : World) (hT : Tb w T b L) (hL : L.length ≤ 1000) :
    Calls Try.prog 21 #[.pointer (some ⟨T, 0, none⟩), .int .i64 now] w fun e w' => e = .returned (.int .i64 (expN now L : Nat)) ∧ Tb w' T b (expL now L) ∧ Kp (fun x => x = b) w w' := by
  refine (callsIn_wide (n := 10)).1 ?_
  have hlt := hT.lt
  refine callsIn_of_wp_marks Try.func21 rfl trivial ?_ rfl
  simp only [Try.ntmps21, List.size_toArray, List.length_cons, List.length_nil, Nat.reduceAdd, Nat.reduceSub, Array.replicate_succ, Array.replicate_zero, List.push_toArray, List.append_toArray, List.nil_append, List.cons_append]
  gi_wp2_with (refine ⟨trivial, ?_⟩; gi_at_call 26; refine (all26 _ _ _).mono ?_; rintro e w' ⟨rfl, rfl⟩)
  obtain ⟨W0, hW0⟩ : ∃ W0, W0 = (((w.alloc (.cells #[.pointer (some ⟨T, 0, none⟩)] 24)).alloc (.cells #[.int .i64 now] 3)).alloc (.cells #[.int .i64 0] 3)).alloc (.cells #[.pointer (some ⟨T, 0, none⟩)] 24) := ⟨_, rfl⟩
  have hsz : W0.heap.size = w.heap.size + 4 := by rw [hW0]; simp
  have hb0 : Below w.heap.size w W0 := by rw [hW0]; exact ((((Below.refl _ w).alloc (Nat.le_refl _) _).alloc (by simp) _).alloc (by simp; omega) _).alloc (by simp; omega) _
  have hA0 : Arr W0 w.heap.size 24 #[.pointer (some ⟨T, 0, none⟩)] := by rw [hW0]; exact (((Arr.new w 24 _).alloc _).alloc _).alloc _
  have hA1 : Arr W0 (w.heap.size + 1) 3 #[.int .i64 now] := by
    rw [hW0]; have := ((Arr.new (w.alloc (.cells #[.pointer (some ⟨T, 0, none⟩)] 24)) 3 #[.int .i64 now]).alloc (.cells #[.int .i64 0] 3)).alloc (.cells #[.pointer (some ⟨T, 0, none⟩)] 24); rwa [World.size_alloc] at this
  have hA2 : Arr W0 (w.heap.size + 2) 3 #[.int .i64 0] := by
    rw [hW0]; have := (Arr.new ((w.alloc (.cells #[.pointer (some ⟨T, 0, none⟩)] 24)).alloc (.cells #[.int .i64 now] 3)) 3 #[.int .i64 0]).alloc (.cells #[.pointer (some ⟨T, 0, none⟩)] 24); rwa [World.size_alloc, World.size_alloc] at this
  have hA3 : Arr W0 (w.heap.size + 3) 24 #[.pointer (some ⟨T, 0, none⟩)] := by
    rw [hW0]; have := Arr.new (((w.alloc (.cells #[.pointer (some ⟨T, 0, none⟩)] 24)).alloc (.cells #[.int .i64 now] 3)).alloc (.cells #[.int .i64 0] 3)) 24 #[.pointer (some ⟨T, 0, none⟩)]; rwa [World.size_alloc, World.size_alloc, World.size_alloc] at this
  have hT0 := hT.below hb0 hlt.1 hlt.2
  rw [← hW0]
  clear hW0
  refine wpIn_rangeEach rfl (by omega) 40 #[.pointer (some ⟨w.heap.size + 3, 0, none⟩)] rfl trivial (enters_of Try.func40 (by kernel_rfl) rfl) (fun k => plv (nth L k)) L.length
    (fun x k W => (Arr W (w.heap.size + 2) 3 #[.int .i64 (expN now (L.take k) : Nat)] ∧ Arr W w.heap.size 24 #[.pointer (some ⟨T, 0, none⟩)] ∧ Arr W (w.heap.size + 1) 3 #[.int .i64 now] ∧ Arr W (w.heap.size + 3) 24 #[.pointer (some ⟨T, 0, none⟩)] ∧ Tb W T b (expTo now L k)) ∧ Kp (fun x => x = b) w W ∧ W0.heap.size ≤ W.heap.size ∧ W0.heap.size ≤ x ∧ x < W.heap.size)
    (fun k a' W => ∃ Bx, W0.heap.size ≤ Bx ∧ Arr W Bx 27 #[.string (nth L k).n, .int .i64 (nth L k).f, .int .i64 (nth L k).t, .int .i64 (nth L k).r] ∧ a' = { tmps := #[.pointer (some ⟨T, 0, none⟩), .int .i64 now, .pointer (some ⟨w.heap.size, 0, none⟩), .pointer (some ⟨w.heap.size + 1, 0, none⟩), .int .i64 0, .pointer (some ⟨w.heap.size + 2, 0, none⟩), .pointer (some ⟨Bx, 0, none⟩), .pointer (some ⟨T, 0, none⟩), .func (.func 40) #[] #[.pointer (some ⟨w.heap.size + 3, 0, none⟩)], plv (nth L k), undef, undef, undef, undef, undef, undef, undef, undef, undef, undef, undef, undef, undef], defers := [] })
    ?hI ?hAx ?h0 ?hiter ?assign ?body ?done
  case hI =>
    rintro x k W r o o' ⟨⟨h1, h2, h3, h4, h5⟩, hb, hs, hx, hxl⟩ hr ho hoc
    exact ⟨⟨h1.putObj ho hoc, h2.putObj ho hoc, h3.putObj ho hoc, h4.putObj ho hoc, h5.putObj o' (by omega) (by omega)⟩, hb.grown (grownBy_putObj' W r o') (fun x _ e => by injection e with e; omega), by simpa using hs, hx, by simpa using hxl⟩
  case hAx =>
    rintro k a' W r o o' ⟨Bx, h1, h2, rfl⟩ hr ho hoc
    exact ⟨Bx, h1, h2.putObj ho hoc, rfl⟩
  case h0 =>
    intro x W hb hx hxt
    have hxl := lt_of_cells hxt
    exact ⟨⟨hA2.below hb (by omega), hA0.below hb (by omega), hA1.below hb (by omega), hA3.below hb (by omega), hT0.below hb (by omega) (by omega)⟩, Kp.none_of_below (hb0.trans (hb.mono hb0.size)), hb.size, hx, hxl⟩
  case hiter =>
    refine all1_hands _ (by omega) (w.heap.size + 3) T b L _ W0 (by omega) (hA3.at_ rfl) hT0 hL ?_
    rintro x k W ⟨⟨_, _, _, h3, h4⟩, _⟩
    exact ⟨h3.at_ rfl, _, h4, fun j p hj hp => expTo_mem now hj hp⟩
  case assign =>
    rintro l x k W K hl ⟨⟨h1, h2, h3, h4, h5⟩, hb, hs, hx, hxl⟩ hk hK
    dsimp only
    unfold plv at hK ⊢
    gi_wp2
    exact hK _ _ ((KeepsOthers.alloc W _).from _) (Below.heap_alloc _ _ _ hxl) ⟨⟨h1.alloc _, h2.alloc _, h3.alloc _, h4.alloc _, h5.below ((Below.refl _ W).alloc (Nat.le_refl _) _) h5.lt.1 h5.lt.2⟩, hb.alloc _, by simp; omega, hx, by simp; omega⟩ ⟨W.heap.size, hs, Arr.new W 27 _, rfl⟩
  case body =>
    rintro l x k a' W hl ⟨⟨h1, h2, h3, h4, h5⟩, hb, hs, hx, hxl⟩ ⟨Bx, hBx, hBA, rfl⟩ hk
    have hp : L[k]? = some (nth L k) := by unfold nth; rw [List.getD_eq_getElem?_getD, List.getElem?_eq_getElem hk]; rfl
    obtain ⟨p, hpe⟩ : ∃ p, p = nth L k := ⟨_, rfl⟩
    rw [← hpe] at hBA hp
    clear hpe
    have hnl := name_le h5.m (expTo_mem now (Nat.le_refl k) hp)
    obtain ⟨t, ht⟩ : ∃ t, t = p.t := ⟨_, rfl⟩
    obtain ⟨n, hn⟩ : ∃ n, n = p.n := ⟨_, rfl⟩
    obtain ⟨v, hv⟩ : ∃ v, v = expN now (L.take k) := ⟨_, rfl⟩
    have hv1 : v ≤ 1000 := by rw [hv]; have h8 := expN_le now (L.take k); have h9 := List.length_take_le k L; rw [List.length_take] at h8; omega
    rw [← ht, ← hn] at hBA
    rw [← hv] at h1
    have c0 : W.cell? ⟨Bx, 0, none⟩ = some (.string n) := hBA.at_ rfl
    have c2 : W.cell? ⟨Bx, 2, none⟩ = some (.int .i64 t) := hBA.at_ rfl
    have cn : W.cell? ⟨w.heap.size + 1, 0, none⟩ = some (.int .i64 now) := h3.at_ rfl
    have ct : W.cell? ⟨w.heap.size, 0, none⟩ = some (.pointer (some ⟨T, 0, none⟩)) := h2.at_ rfl
    have cT := h5.cell
    have HV := Lib.hid (And.intro hv (And.intro hp ht))
    have hmx : Try.prog.follows .mixedOrders = true := by kernel_rfl
    have hd : 1 ≤ 10 - 1 - 1 := by omega
    by_cases htn : t ≤ now
    · obtain ⟨W3, hdel, hm3, ht3⟩ := (h5.m.drew).drop (string_keyed Try.underlying9) Try.underlying54 (key_str n (by rw [hn]; exact hnl)) 0
      have hbB : b ≠ w.heap.size + 2 := by omega
      have hA3' : Arr W3 (w.heap.size + 2) 3 #[.int .i64 (v : Nat)] := h1.grown (w := W.drew) ht3.grown (by intro e; injection e with e; omega)
      have cv : W3.cell? ⟨w.heap.size + 2, 0, none⟩ = some (.int .i64 (v : Nat)) := hA3'.at_ rfl
      have cf : W3.frozen? ⟨w.heap.size + 2, 0, none⟩ = false := hA3'.frozen 0
      have HM := Lib.hid (And.intro hm3 ht3)
      have HT := Lib.hid htn
      have HN := Lib.hid hn
      clear hv ht hBA hp hm3 ht3 hn
      have HX := Lib.hid (And.intro h2 (And.intro h3 (And.intro h4 hA3')))
      have HB := Lib.hid hb
      have H5 := Lib.hid h5
      clear h2 h3 h4 hA3' hb h5
      gi_wp2
      refine wpIn_mono (Q := fun e a1 w1 => e = .normal ∧ w1 = W3 ∧ a1 = { tmps := #[.pointer (some ⟨T, 0, none⟩), .int .i64 now, .pointer (some ⟨w.heap.size, 0, none⟩), .pointer (some ⟨w.heap.size + 1, 0, none⟩), .int .i64 0, .pointer (some ⟨w.heap.size + 2, 0, none⟩), .pointer (some ⟨Bx, 0, none⟩), .pointer (some ⟨T, 0, none⟩), .func (.func 40) #[] #[.pointer (some ⟨w.heap.size + 3, 0, none⟩)], plv (nth L k), .pointer (some ⟨Bx, 2, none⟩), .int .i64 t, .int .i64 now, .bool true, .pointer (some ⟨T, 0, none⟩), .pointer (some ⟨T, 0, none⟩), .pointer (some ⟨T, 0, none⟩), .map (some b), .pointer (some ⟨Bx, 0, none⟩), .string n, undef, undef, undef], defers := [] }) ?_ ?_
      · gi_region
        all_goals exact ⟨rfl, rfl, rfl⟩
      · rintro e a1 w1 ⟨rfl, rfl, rfl⟩
        gi_wp2
        obtain ⟨h2, h3, h4, hA3'⟩ := HX.out
        obtain ⟨hm3, ht3⟩ := HM.out
        obtain ⟨hv, hp, ht⟩ := HV.out
        have hg : W.grownBy w1 (some b) := ⟨ht3.grown.os, ht3.grown.tape, ht3.grown.output, ht3.grown.size, ht3.grown.block⟩
        have hsz3 := hg.size
        have hle : p.t ≤ now := by rw [← ht]; exact HT.out
        have hk3 : Kp (fun x => x = b) w w1 := HB.out.grown hg (fun x _ e => by injection e with e; exact e.symm)
        have hwv : ((v : Nat) : Int) + 1 = (expN now (L.take (k + 1)) : Nat) := by rw [expN_succ now hp, if_pos hle, ← hv]; omega
        have hnm : n.data.toList = p.nm := by rw [HN.out]; rfl
        rw [hnm, dat_del] at hm3
        have hT3 : Tb w1 T b (expTo now L (k + 1)) := by
          rw [expTo_drop now hT.ris hp hle]
          exact ⟨H5.out.t.grown hg (by intro e; injection e with e; exact H5.out.ne e.symm), own_tight hm3, ris_del H5.out.ris _⟩
        refine ⟨(KeepsFrom.of_grownBy hg (fun j e => by injection e with e; omega)).trans ((KeepsOthers.setCell w1 _ _).from _), ?_, ⟨?_, h2.grown hg (by intro e; injection e with e; omega) |>.far (by simp) _, h3.grown hg (by intro e; injection e with e; omega) |>.far (by simp) _, h4.grown hg (by intro e; injection e with e; omega) |>.far (by simp) _, hT3.below ((Below.refl w.heap.size w1).setCell (by simp) _) hlt.1 hlt.2⟩, hk3.setCell (.inr (by simp)) _, by simp; omega, by omega, by simp; omega⟩
        · exact (Below.heap_setCell w1 _ _ x (by simp; omega)).trans (hg.block x hxl (by intro e; injection e with e; omega))
        · rw [hwv]
          exact hA3'.set 0 _
    · have hcnt : expN now (L.take (k + 1)) = v := by rw [expN_succ now hp, if_neg (by omega), hv]; rfl
      have hst := expTo_stay now hp (by omega)
      have HC := Lib.hid (And.intro hcnt hst)
      clear hcnt hst hv ht hp hn
      gi_wp2
      rw [← HC.out.1] at h1
      rw [← HC.out.2] at h5
      exact ⟨(KeepsOthers.refl W).from _, rfl, ⟨⟨h1, h2, h3, h4, h5⟩, hb, by omega, by omega, hxl⟩⟩
  case done =>
    rintro D x W hD ⟨⟨h1, _, _, _, h5⟩, hb, hs, _⟩ hK
    rw [List.take_length] at h1
    rw [expTo_end] at h5
    have cv : W.cell? ⟨w.heap.size + 2, 0, none⟩ = some (.int .i64 (expN now L : Nat)) := h1.at_ rfl
    have HX := Lib.hid (And.intro hD (And.intro hb (And.intro hs h5)))
    clear h5 hb
    gi_wp2
    refine ⟨by simp, .inl ⟨_, _, rfl, run_takeDeferred hK, ?_⟩⟩
    have hD := HX.out.1
    exact ⟨_, results_tmp rfl _ _ _, rfl, HX.out.2.2.2.putObj _ (by omega) (by omega), HX.out.2.1.grown (grownBy_putObj' W _ _) (fun x _ e => by injection e with e; omega)⟩
end Go.Proofs.Ytghklmhmhekjgaa
