/- The iterator of a table's plans hands out the plans by rising names. Conditions: at most 1000 plans. -/
import Derived.Test.YtghklmhmhekjgaaLays
import Derived.Test.YtghklmhmhekjgaaEach
import Derived.Test.YtghklmhmhekjgaaTab
namespace Go.Proofs.Ytghklmhmhekjgaa
open Go.RowKit Go.Maps Go.Sort Go.Shelf
attribute [local go_sem] Oper.semAt_some

theorem sortsA (m : Nat) : AnyZ.SortsIn Try.prog Try.sortedA_ren Fence.wide m :=
  ⟨fun blk off cap ss W hH hblk hsz => callsIn_wide.2 (AnyM.slices_Sort_string Try.sortA blk off cap ss W hH hblk hsz),
   fun p cap W => callsIn_wide.2 (AnyM.slices_Sort_string_none Try.sortA p cap W)⟩

theorem keys42 (d : Nat) (mb : Option Nat) (W : World) : CallsIn Fence.wide d Try.prog 42 #[.map mb] W fun e w' => e = .returned (.func (.func 50) #[] #[.pointer (some ⟨W.heap.size, 0, none⟩)]) ∧ w' = W.alloc (.cells #[.map mb] 54) :=
  AnyZ.keys_in Try.keysA Fence.wide d trivial rfl mb W

/-- The names, by rising order. -/
theorem sorted41 (d : Nat) (hd : 5 ≤ d) (b : Nat) (L : List Pl) (W : World) (hown : W.ownsMap Try.prog 9 plr b L.length (dat L)) (hr : Ris L) (hL : L.length ≤ 1000) :
    CallsIn Fence.wide d Try.prog 41 #[.func (.func 50) #[] #[.pointer (some ⟨W.heap.size, 0, none⟩)]] (W.alloc (.cells #[.map (some b)] 54)) fun e w' => ∃ v : Value, e = .returned v ∧
      w'.ownsRow (W.heap.size + 1) 9 1 v L.length (L.map fun p => .string p.n) ∧ Below W.heap.size W w' ∧ w'.heap[W.heap.size]? = some (.cells #[.map (some b)] 54 (0, 0)) := by
  have hbl := hown.lt
  have hseq : SeqGives Fence.wide (d - 1 - 1 - 1) Try.prog 50 #[.pointer (some ⟨W.heap.size, 0, none⟩)] encStr (fun ss => ss.Perm (strKeys (dat L))) (Maps.size (dat L)) (W.alloc (.cells #[.map (some b)] 54)) :=
    AnyZ.keys_gives (ρ := Try.keysA_ren) { Try.keysA with } Fence.wide _ trivial rfl (by omega) W.heap.size b L.length (dat L) _ (by simp) (by simp) (own_heap hown (Below.heap_alloc _ _ b hbl))
  have cS := AnyZ.sorted_in Try.sortedA Fence.wide d trivial trivial trivial trivial rfl (by omega) (sortsA _) (enters_of Try.func49 (by kernel_rfl) rfl) 50 #[.pointer (some ⟨W.heap.size, 0, none⟩)] trivial (enters_of Try.func50 (by kernel_rfl) rfl) _ _ (by rw [dat_size]; unfold maxLen; omega) (by rw [dat_size]; omega) _ hseq
  change CallsIn _ _ Try.prog 41 _ _ _ at cS
  refine cS.mono ?_
  rintro e w' ⟨v, ss, rfl, hp, hrow, _, hb⟩
  have hlen : ss.length = L.length := by have := hp.length_eq; rw [strKeys_dat, List.length_map] at this; exact this
  have hsz : (W.alloc (.cells #[.map (some b)] 54)).heap.size = W.heap.size + 1 := by simp
  rw [sorted_keys hr hp, hlen, List.map_map, hsz] at hrow
  have e2 : (encStr ∘ Pl.nm) = fun p : Pl => Value.string p.n := funext fun p => encStr_nm p
  rw [e2] at hrow
  exact ⟨v, rfl, hrow, ((Below.refl _ W).alloc (Nat.le_refl _) _).trans (hb.mono (by simp)), (hb.block W.heap.size (by simp)).trans (World.alloc_heap_new W _)⟩

/-- The k-th plan. -/
def nth (L : List Pl) (k : Nat) : Pl := L.getD k ⟨⟨#[]⟩, 0, 0, 0⟩
theorem nth_of {L : List Pl} {k : Nat} {p : Pl} (h : L[k]? = some p) : nth L k = p := by unfold nth; rw [List.getD_eq_getElem?_getD, h]; rfl

theorem name_le {w : World} {b n : Nat} {L : List Pl} (h : w.ownsMap Try.prog 9 plr b n (dat L)) {p : Pl} (hp : p ∈ L) : p.n.size ≤ maxLen := by
  have h1 := strKeys_le h Try.underlying9 p.nm (by rw [strKeys_dat]; exact List.mem_map.2 ⟨p, hp, rfl⟩)
  have : p.nm.length = p.n.size := by unfold Pl.nm; rw [Array.length_toList]; rfl
  omega

set_option maxRecDepth 100000 in
set_option maxHeartbeats 4000000 in
theorem all1_hands (d : Nat) (hd : 7 ≤ d) (Bt T b : Nat) (L : List Pl) (I : Nat → Nat → World → Prop) (w : World) (hBt : Bt < w.heap.size)
    (hc : w.cell? ⟨Bt, 0, none⟩ = some (.pointer (some ⟨T, 0, none⟩))) (hT : Tb w T b L) (hL : L.length ≤ 1000)
    (hI : ∀ x k W, I x k W → W.cell? ⟨Bt, 0, none⟩ = some (.pointer (some ⟨T, 0, none⟩)) ∧ ∃ M, Tb W T b M ∧ ∀ j p, k ≤ j → L[j]? = some p → p ∈ M) :
    Hands Fence.wide d Try.prog 40 #[.pointer (some ⟨Bt, 0, none⟩)] (fun k => plv (nth L k)) L.length I w := by
  intro l J W hb hl hY hJ0 hJI
  have hcW := (hb.cell (p := ⟨Bt, 0, none⟩) hBt).trans hc
  have hTW := hT.below hb hT.lt.1 hT.lt.2
  have hmW := hTW.cell
  have cS := sorted41 (d - 1) (by omega) b L W hTW.m hTW.ris hL
  have h1d : 1 ≤ d := by omega
  have hfK : Fence.wide.fn 42 := trivial
  have hfS : Fence.wide.fn 41 := trivial
  have h40 : Fence.wide.fn 40 := trivial
  refine callsIn_of_wp Try.func40 rfl h40 ?_ rfl
  have HY := Lib.hid hY
  have HJ := Lib.hid (And.intro hJ0 hJI)
  have HI := Lib.hid hI
  have HT := Lib.hid hTW
  clear hY hJ0 hJI hI hT hTW hb hc
  simp only [Try.ntmps40, List.size_toArray, List.length_cons, List.length_nil, Nat.reduceAdd, Nat.reduceSub, Array.replicate_succ, Array.replicate_zero, List.push_toArray, List.append_toArray, List.nil_append, List.cons_append]
  gi_wp2_with (first
    | (gi_at_call 42; refine (keys42 _ _ _).mono ?_; rintro e w' ⟨rfl, rfl⟩)
    | (gi_at_call 41; refine cS.mono ?_; rintro e w1 ⟨v, rfl, hrow, hb1, hgr1⟩))
  have hb0 : Below W.heap.size W w1 := hb1
  have hT1 := HT.out.below hb1 HT.out.lt.1 HT.out.lt.2
  obtain ⟨N, hN⟩ : ∃ N, N = L.length := ⟨_, rfl⟩
  obtain ⟨xs, hxs⟩ : ∃ xs, xs = L.map (fun p => Value.string p.n) := ⟨_, rfl⟩
  rw [← hN, ← hxs] at hrow
  have hvN : ∃ r cap, v = .slice (some ⟨r, 0, none⟩) N cap ∨ (v = .slice none 0 0 ∧ N = 0) := by
    rcases Nat.eq_zero_or_pos N with h0 | h0
    · rcases hrow.2 with ⟨hv, _⟩ | ⟨g', cap, cur, hv, _⟩
      · exact ⟨0, 0, .inr ⟨hv, h0⟩⟩
      · exact ⟨g', cap, .inl hv⟩
    · obtain ⟨r, cap, cur, hv, _⟩ := own_form hrow h0
      exact ⟨r, cap, .inl hv⟩
  obtain ⟨r, cap, hv⟩ := hvN
  have hr1 : ∃ x, W.heap.size ≤ x ∧ (∃ cs t, w1.heap[x]? = some (.cells cs t (0, 0)) ∧ (t = 9 ∨ t = 54)) ∧ ∀ k p, L[k]? = some p → v = .slice (some ⟨x, 0, none⟩) N cap ∧ x < w1.heap.size ∧ w1.cell? ⟨x, k, none⟩ = some (.string p.n) := by
    rcases Nat.eq_zero_or_pos N with h0 | h0
    · refine ⟨W.heap.size, Nat.le_refl _, ⟨_, _, hgr1, .inr rfl⟩, fun k p hk => ?_⟩
      have := (List.getElem?_eq_some_iff.1 hk).1
      omega
    · obtain ⟨r', cap', cur, hv', hbase, harr, _⟩ := own_form hrow h0
      refine ⟨r', by omega, ⟨_, _, harr, .inl rfl⟩, fun k p hk => ?_⟩
      have hvr := hv'
      rcases hv with hv | ⟨hv, hz⟩
      · rw [hv] at hvr
        injection hvr with e1 e2 e3
        injection e1 with e1
        injection e1 with e1
        rw [hv, e1]
        rw [hv, e1] at hrow
        exact ⟨rfl, harr.lt, own_cell hrow (by rw [hxs, List.getElem?_map, hk]; rfl)⟩
      · omega
  obtain ⟨x, hx, hxl, hcells⟩ := hr1
  have hJx := HJ.out.1 x w1 hb0 hx hxl
  have HC := Lib.hid hcells
  have HN := Lib.hid hN
  have HX := Lib.hid hxs
  have hN1000 : N ≤ 1000 := by omega
  clear hcells hN hxs hrow hb1 cS hb0
  rcases hv with rfl | ⟨rfl, hz⟩
  · go_simp
    gi_wp2
    gi_loopw [12] (fun i wr => ∃ k : Nat, k ≤ N ∧ i = .int .i64 k ∧ J x k wr ∧ wr.heap[x]? = w1.heap[x]?) (fun i _ => N - (intOf i).toNat)
    case atStart => exact ⟨0, Nat.zero_le _, rfl, hJx, rfl⟩
    case round =>
      obtain ⟨k, hk, rfl, hJk, hxk⟩ := hrel
      by_cases hlt : k < N
      · have hkL : k < L.length := by have := HN.out; omega
        obtain ⟨p, hp⟩ : ∃ p, L[k]? = some p := ⟨_, List.getElem?_eq_getElem hkL⟩
        obtain ⟨e1, hxlt, hcx⟩ := HC.out k p hp
        obtain rfl : r = x := by
          injection e1 with e1
          injection e1 with e1
          injection e1 with e1
        have hcr : wr.cell? ⟨r, k, none⟩ = some (.string p.n) := (World.cell?_of_block (w := w1) (a := ⟨r, k, none⟩) hxk).trans hcx
        obtain ⟨hcB, M, hM, hMem⟩ := HI.out r k wr (HJ.out.2 r k wr hJk)
        have hpM := hMem k p (Nat.le_refl _) hp
        have hcT := hM.cell
        have hlk := look_2 hM.m p.n (name_le hM.m hpM)
        rw [show getp p.n.data.toList M = p from get_at hM.ris hpM] at hlk
        obtain ⟨fn, tmps, assign, body, hy, hR⟩ := HY.out r k wr hJk hkL
        rw [nth_of hp] at hy
        obtain ⟨pv, hpv⟩ : ∃ pv, pv = plv p := ⟨_, rfl⟩
        rw [← hpv] at hlk hy
        obtain ⟨sn, hsn⟩ : ∃ sn, sn = p.n := ⟨_, rfl⟩
        rw [← hsn] at hlk hcr
        clear hpv hsn hpM hMem hcx e1 hM
        gi_wp2
        refine hR.mono ?_
        rintro e W3 ⟨rfl, hJ3, hx3⟩
        gi_wp2
        go_roundw
        case rel => exact ⟨k + 1, by omega, by go_num, hJ3, hx3.trans hxk⟩
        case measure => simp [intOf]; omega
      · obtain rfl : k = N := by omega
        gi_wp2
        go_end0
        exact ⟨⟨_, rfl⟩, x, by rw [← HN.out]; exact hJk⟩
  · go_simp
    gi_wp2
    refine wpIn_loop_rounds 1 ?_
    rw [roundsIn_succ]
    gi_wp2
    go_end0
    exact ⟨⟨_, rfl⟩, x, by rw [← HN.out, hz]; exact hJx⟩

set_option maxHeartbeats 1000000 in
theorem all26 (d : Nat) (T : Nat) (w : World) :
    CallsIn Fence.wide d Try.prog 26 #[.pointer (some ⟨T, 0, none⟩)] w fun e w' => e = .returned (.func (.func 40) #[] #[.pointer (some ⟨w.heap.size, 0, none⟩)]) ∧ w' = w.alloc (.cells #[.pointer (some ⟨T, 0, none⟩)] 24) := by
  have h26 : Fence.wide.fn 26 := trivial
  refine callsIn_of_wp Try.func26 rfl h26 ?_ rfl
  simp only [Try.ntmps26, List.size_toArray, List.length_cons, List.length_nil, Nat.reduceAdd, Nat.reduceSub, Array.replicate_succ, Array.replicate_zero, List.push_toArray, List.append_toArray, List.nil_append, List.cons_append]
  gi_wp2
  go_ret
  exact ⟨rfl, rfl⟩
end Go.Proofs.Ytghklmhmhekjgaa
