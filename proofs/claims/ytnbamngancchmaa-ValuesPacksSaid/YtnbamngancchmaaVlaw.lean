/- What values.Pack packs, the reference packs, and values.Unpack reads: the statement ValuesPacks, for every input. No conditions. -/
import Derived.Test.YtnbamngancchmaaRefValues
import Derived.Test.YtnbamngancchmaaCopy
namespace Go.Proofs.Ytnbamngancchmaa.valuesPacks
open Go.ChangeShapes Go.WideShapes Go.ChangeAt Go.RowKit PB PV

theorem packB_byte (l : List Int) : ∀ x ∈ packBV l, x < 256 := by
  unfold packBV
  split
  · exact bytesOf_lt _
  · simp

theorem own_cap {w : World} {base r cap n sz : Nat} {e : TypeId} {xs : List Value} (h : w.ownsRow base e sz (.slice (some ⟨r, 0, none⟩) n cap) n xs) : n ≤ cap := by
  rcases h.2 with ⟨h0, _⟩ | ⟨g', cap', cur, hv, _, _, r1, _⟩
  · cases h0
  · injection hv with hv hv1 hv2
    omega
/-- The same row, cut to fewer elements. -/
theorem own_rd {w : World} {base r cap n : Nat} {e : TypeId} {xs ys : List Value} (h : w.ownsRow base e 1 (.slice (some ⟨r, 0, none⟩) n cap) n (xs ++ ys)) : Rd w w.heap.size (some ⟨r, 0, none⟩) xs.length xs :=
  ⟨rfl, fun hn => ⟨r, 0, rfl, (h.lt r rfl).2, fun j u hu => by
    rw [Nat.zero_add]
    refine own_cell h ?_
    rw [List.getElem?_append_left (List.getElem?_eq_some_iff.1 hu).1]; exact hu⟩⟩

theorem in64_wf {l : List Int} (h : ∀ x ∈ l, (Lit.int .i64 x).wf = true) : In64 l := by
  intro i
  by_cases hi : i < l.length
  · have h5 := h l[i] (List.getElem_mem hi)
    have e1 : IntKind.i64.min = -9223372036854775808 := rfl
    have e2 : IntKind.i64.max = 9223372036854775807 := rfl
    have : -9223372036854775808 ≤ l[i] ∧ l[i] ≤ 9223372036854775807 := by simpa [Lit.wf, e1, e2] using h5
    simpa [List.getD, hi] using this
  · simp [List.getD, List.getElem?_eq_none (Nat.le_of_not_lt hi)]

set_option maxRecDepth 100000 in
set_option maxHeartbeats 2000000 in
theorem walk (A1 A2 : Option Addr) (n1 c1 n2 c2 : Nat) (l o : List Int) (w : World) (h1 : Rd w w.heap.size A1 n1 (ints l)) (h2 : Rd w w.heap.size A2 n2 (ints o)) (hin64 : In64 l) :
    Calls Try.prog 7 #[.slice A1 n1 c1, .slice A2 n2 c2] w fun e w' => e = .returned (.bool true) ∧ Below w.heap.size w w' := by
  obtain ⟨i0, hi, hz0, hz1, hz2⟩ := info_parts Try.vinfo3
  by_cases hin : n1 ≤ 300 ∧ n2 ≤ 300
  · obtain ⟨m1, m2⟩ := hin
    go_enter Try.func7, Try.ntmps7
    go_wp2_with fail
    refine (alive15 w).mono ?_
    rintro e w1 ⟨rfl, hb1⟩
    have r1 := h1.below hb1
    have r2 := h2.below hb1
    have hB := hb1.size
    go_wp2_with (at_builtin; first | (refine wpList_copy rfl (.const (.slice none 0 0)) (.tmp 30) 23 rfl 3 i0 (.int .i64 0) 8 Try.underlying23 hi hz0 hz1 hz2 rfl rfl A1 n1 c1 w.heap.size (ints l) rfl r1 (one_ints l) (by omega) (by unfold maxLen; omega) ?_; intro v2 w2 hown2 hb2) | (refine wpList_append_lies _ rfl (.tmp 31) (.tmp 32) 23 rfl w1.heap.size 3 i0 (.int .i64 0) 1 8 Try.underlying23 hi hz0 hz1 hz2 rfl (by decide) v2 n1 (ints l) rfl (hown2.alloc _) ⟨w2.heap.size, 0, none⟩ 1 1 [.int .i64 (-71)] rfl rfl (cell_one_new w2 _ 3) (by simp [Value.oneCell']) (by omega) (by unfold maxLen; omega) (by omega) (by have := hb2.size; simp; omega) (w2.heap.size + 1) (by simp) ?_; intro r cap w3 hown3 hg3 hat3 hlt3; have hcap := own_cap hown3; have hcap0 : cap ≠ 0 := by omega))
    have hln : (ints l).length = n1 := r1.1
    have r3 := own_rd hown3
    rw [hln] at r3
    have hb3 : Below w1.heap.size w1 w3 := (hb2.alloc hb2.size _).grown hg3 (by have := hb2.size; simp; omega) (fun x hx => (hown2.lt x hx).1)
    have hp := vpack_any (some ⟨r, 0, none⟩) n1 cap w3.heap.size l w3 r3 (Nat.le_refl _) (by omega)
    refine hp.mono ?_
    rintro e w4 ⟨v4, rfl, hown4, hb4⟩
    obtain ⟨N4, hN4⟩ : ∃ N4, N4 = (packBV l).length := ⟨_, rfl⟩
    have hN4b : N4 ≤ 10000 := by rw [hN4]; exact packBV_le l
    rw [← hN4] at hown4
    have HN4 := Lib.hid hN4
    clear hN4
    have hB3 := hb3.size
    have r2' := r2.below ((hb3.mono hB).trans (hb4.mono (by omega)))
    have hp2 := vpack_any A2 n2 c2 w.heap.size o w4 r2' (by have := hb4.size; omega) (by omega)
    go_wp2_with fail
    refine hp2.mono ?_
    rintro e w5 ⟨v5, rfl, hown5, hb5⟩
    obtain ⟨N5, hN5⟩ : ∃ N5, N5 = (packBV o).length := ⟨_, rfl⟩
    have hN5b : N5 ≤ 10000 := by rw [hN5]; exact packBV_le o
    rw [← hN5] at hown5
    clear hN5
    obtain ⟨A5, c5, rfl, hr5, _⟩ := Rd.of_own hown5
    have HX5 : Hid (∃ ys : List Int, (packBV o).map bv = ys.map (Value.int .u8)) := ⟨(packBV o).map Int.ofNat, by rw [List.map_map]; rfl⟩
    go_wp2_with fail
    go_loopw [11] (fun i wr => ∃ (k : Nat) (ys : List Int), k ≤ N5 ∧ i = .int .i64 k ∧ wr.ownsRow w4.heap.size 5 1 (.slice A5 N5 c5) N5 (ys.map (Value.int .u8)) ∧ Below w4.heap.size w4 wr) (fun i _ => N5 - (intOf i).toNat)
    case atStart =>
      obtain ⟨ys, hys⟩ := HX5.out
      exact ⟨0, ys, Nat.zero_le _, rfl, by rw [← hys]; exact hown5, hb5⟩
    case round =>
      obtain ⟨k, ys, hk, rfl, hown, hbl⟩ := hrel
      by_cases hlt : k < N5
      · have hyl : ys.length = N5 := by have := hown.1; simpa using this
        obtain ⟨r5, cap5, cur5, hv, _⟩ := own_form hown (by omega)
        injection hv with hv hv1 hv2
        subst hv hv2
        have hx := own_cell hown (i := k) (u := .int .u8 (ys.getD k 0)) (by simp [List.getD, hyl, hlt])
        have hf := own_frozen hown k
        have HS : Hid (∀ u : Int, (wr.setCell ⟨r5, k, none⟩ (.int .u8 u)).ownsRow w4.heap.size 5 1 (.slice (some ⟨r5, 0, none⟩) N5 c5) N5 ((ys.set k u).map (Value.int .u8)) ∧ Below w4.heap.size w4 (wr.setCell ⟨r5, k, none⟩ (.int .u8 u))) := by
          intro u
          refine ⟨?_, hbl.setCell (hown.lt r5 rfl).1 _⟩
          rw [List.map_set]; exact own_set hown k _
        go_wp2_with fail
        go_roundw
        case rel => exact ⟨k + 1, _, by omega, by go_num, (HS.out _).1, (HS.out _).2⟩
        case measure => simp [intOf]; omega
      · obtain rfl : k = N5 := by omega
        obtain ⟨A4, c4, rfl, hr4, _⟩ := Rd.of_own hown4
        have s4 := hbl.size
        have t4 := hb4.size
        have hrr := rvalues_any A1 n1 c1 w.heap.size l wr (r1.below ((hb3.mono hB).trans ((hb4.mono (by omega)).trans (hbl.mono (by omega))))) (by omega) (by omega)
        have r4' := hr4.below hbl
        have r3' := r3.below (hb4.trans (hbl.mono (by omega)))
        have hc3 := own_cell hown3 (i := n1) (u := .int .i64 (-71)) (by rw [← hln]; simp)
        have hrlt : r < w3.heap.size := (hown3.lt r rfl).2
        have hc4 := ((hb4.trans (hbl.mono (by omega))).cell (p := ⟨r, n1, none⟩) hrlt).trans hc3
        have hblw : Hid (Below w.heap.size w wr) := hb1.trans ((hb3.mono hB).trans ((hb4.mono (by omega)).trans (hbl.mono (by omega))))
        have hlw3 : w3.heap.size ≤ wr.heap.size := by omega
        have hlw4 : w4.heap.size ≤ wr.heap.size := by omega
        have hlw0 : w.heap.size ≤ wr.heap.size := by omega
        have r1' := r1.below ((hb3.mono hB).trans ((hb4.mono (by omega)).trans (hbl.mono (by omega))))
        clear hown hbl hown4 hown3 hown2 hb4 hb3 hb2 hb1 hr4 r3 r1 r2 r2' hc3 h1 h2 hp hp2 hown5 hr5 hg3 hat3 hlt3 hb5
        go_wp2_with fail
        refine hrr.mono ?_
        rintro e w6 ⟨v6, rfl, hown6, hb6⟩
        have cv6 := conv_own hown6
        have cv4 := conv_rd (c := c4) (r4'.below (hb6.mono hlw4))
        have r3s := r3'.below (hb6.mono hlw3)
        have r1s := r1'.below (hb6.mono hlw0)
        have hsame := sameInts_any (some ⟨r, 0, none⟩) A1 n1 cap w3.heap.size n1 c1 w.heap.size l l w6 r3s r1s (by omega) (by omega)
        rw [decide_eq_true rfl] at hsame
        have hc6 := (hb6.cell (p := ⟨r, n1, none⟩) (by show r < _; omega)).trans hc4
        have HB6 : Hid (Below w.heap.size w w6) := hblw.out.trans (hb6.mono hlw0)
        obtain ⟨E, hE⟩ : ∃ E, E = packEV l := ⟨_, rfl⟩
        rw [← hE]
        have HE := Lib.hid hE
        clear hE
        by_cases hE0 : E = 0
        · have hup := fun j => vunpack_any A4 N4 c4 w4.heap.size (n1 : Int) (packBV l) (w6.drewN j) ((r4'.below (hb6.mono hlw4)).drewN j) (by have := hb6.size; show _ ≤ w6.heap.size; omega) (by omega) (packB_byte l)
          have hz6 : w.heap.size ≤ w6.heap.size := HB6.out.size
          subst hE0
          have hpe : packEV l = 0 := HE.out.symm
          have hup0 := unpackV_pack none hin64 hpe
          have hll : l.length = n1 := by simpa [ints] using hln
          have hn120 : l.length ≤ 120 := by
            unfold packEV at hpe
            split at hpe
            · cases hpe
            · omega
          have hue : unpackVE (packBV l) n1 = 0 := by
            unfold unpackVE
            rw [if_neg (by omega), if_neg (by omega), Int.toNat_natCast, ← hll, hup0]; rfl
          have hul : unpackVL (packBV l) n1 = l := by
            unfold unpackVL
            rw [if_neg (by omega), if_neg (by omega), Int.toNat_natCast, ← hll, hup0]; rfl
          have HUP := Lib.hid hup
          have R1 := Lib.hid r1s
          have HU := Lib.hid (And.intro hue (And.intro hul hll))
          clear hown6 hb6 r4' r3' r1' hc4 hrr hue hul hup0 hpe hup hll
          go_wp2_with (first | (go_at_call 17; refine (num17 _ _).mono ?_; rintro e w' ⟨rfl, rfl⟩) | (go_at_call 19; refine hsame.mono ?_; rintro e w' ⟨rfl, j, rfl⟩))
          refine (HUP.out j).mono ?_
          rintro e w8 ⟨v8, rfl, hown8, hb8⟩
          rw [HU.out.2.1, HU.out.2.2] at hown8
          rw [HU.out.1]
          obtain ⟨A8, c8, rfl, hr8, _⟩ := Rd.of_own hown8
          have hz8 : w.heap.size ≤ (w'.drewN j).heap.size := hz6
          have hsame8 := sameInts_any A8 A1 n1 c8 w8.heap.size n1 c1 w.heap.size l l w8 hr8 ((R1.out.drewN j).below (hb8.mono hz8)) (by omega) (by omega)
          rw [decide_eq_true rfl] at hsame8
          have HB8 : Hid (Below w.heap.size w w8) := (below_drewN HB6.out j).trans (hb8.mono hz8)
          clear hown8 hb8 hr8 hz8
          go_wp2_with (first | (go_at_call 17; refine (num17 _ _).mono ?_; rintro e w9 ⟨rfl, rfl⟩) | (go_at_call 19; refine hsame8.mono ?_; rintro e w9 ⟨rfl, j2, rfl⟩))
          go_ret
          exact ⟨rfl, below_drewN HB8.out _⟩
        · have hEb : (E != 0) = true := by simpa using hE0
          clear hE0 hown6 hb6 r4' r3' r1' hc4 hrr
          go_wp2_with (first | (go_at_call 17; refine (num17 _ _).mono ?_; rintro e w' ⟨rfl, rfl⟩) | (go_at_call 19; refine hsame.mono ?_; rintro e w' ⟨rfl, j, rfl⟩))
          go_ret
          exact ⟨rfl, below_drewN HB6.out _⟩
  · have hcase : 300 < n1 ∨ (n1 ≤ 300 ∧ 300 < n2) := by omega
    clear hin
    rcases hcase with h3 | ⟨h3, h4⟩
    all_goals
      go_enter Try.func7, Try.ntmps7
      go_wp2_with fail
      refine (alive15 w).mono ?_
      rintro e w1 ⟨rfl, hb1⟩
      go_wp2_with fail
      go_ret
      exact ⟨rfl, hb1⟩

set_option maxRecDepth 100000 in
theorem lifted (os : Os) (started : os.Started) (H : Type) (enc : TypeId × Value → H) :
    ReturnsInHanded {} Try.checked os 7 .any (Rows.valuesPacksSpec.pre6 enc Try.prog Try.f7 Rows.valuesPacksRow.domain false) (Rows.valuesPacksSpec.post enc Try.prog Try.f7 false true false false) := by
  refine returnsInHanded_of_change (C := Try.checked) Try.own started (by kernel_rfl) Try.func7
    (ChangeSpec.witness6 (enc := enc) (C := Try.checked) false ⟨#[], #[.slice none 0 0, .slice none 0 0], []⟩ 8 (by kernel_rfl) (by kernel_rfl) (by kernel_rfl) (by kernel_rfl)) ?_
  intro W base args ds gs before hval0 hW hcnd _
  have hval : ∀ (j : Nat) t v, Try.f7.params[j]? = some t → args[j]? = some v → Value.okWide Try.prog W .any base t v := hval0
  have hW' := hW
  obtain ⟨p, q, hA0, hV, rfl, _, _⟩ := hW
  have hA : DataW.TrodAll enc Try.prog W 0 (fun _ => true) true Try.f7.params.toList args.toList ds p := hA0
  rw [Try.params7] at hA hval
  obtain ⟨v0, vs0, d0, ds0, p0, q0, hargs, rfl, rfl, h0, r0⟩ := trodAll_cons hA
  obtain ⟨v1, vs1, d1, ds1, p1, q1, rfl, rfl, rfl, h1, r1⟩ := trodAll_cons r0
  obtain ⟨rfl, rfl, rfl⟩ := trodAll_nil r1
  obtain rfl : args = #[v0, v1] := by cases args; simp_all
  obtain ⟨rfl, rfl⟩ := trodVars_none hV
  have hlt : ∀ x ∈ p0 ++ (p1 ++ []), x.block < W.heap.size := fun x hx => by simpa using hW'.lt x (by simpa using hx)
  obtain ⟨A0, n0, c0, l0, rfl, rd0, _, _, wf0⟩ := open_rd Try.underlying23 Try.underlying3 Try.cells3 (hval 0 23 v0 rfl rfl) h0 (fun x hx => hlt x (by simp [hx]))
  obtain ⟨A1, n1, c1, l1, rfl, rd1, _⟩ := open_rd Try.underlying23 Try.underlying3 Try.cells3 (hval 1 23 v1 rfl rfl) h1 (fun x hx => hlt x (by simp [hx]))
  refine (walk A0 A1 n0 c0 n1 c1 l0 l1 W rd0 rd1 (in64_wf wf0)).mono fun e W' ⟨he, hb⟩ => ?_
  subst he
  exact ⟨_, rfl, law_post Try.laidOut (by kernel_rfl) rfl rfl Try.underlying4 hW' ⟨rfl, rfl, rfl⟩ hb⟩

theorem over : Rows.valuesPacksRow.holds Try.pinned (OpenSpec.ofChange Rows.valuesPacksSpec) :=
  OpenClaim.holds_of_wide 7 Try.f7 rfl rfl rfl rfl rfl rfl rfl ⟨rfl, rfl, rfl, rfl, rfl⟩ rfl rfl rfl rfl rfl (by kernel_rfl) Try.func7 (by kernel_rfl)
    (of_decide_eq_true (by kernel_rfl)) (by unfold Func.isWrapper; first | (rw [if_pos (by decide +kernel)]; kernel_rfl) | (rw [if_neg (by decide +kernel)]; exact ⟨rfl, rfl⟩))
    (fun os started H enc _ => lifted os started H enc)

/-- ████ THE STATEMENT ████ -/
theorem proved : Rows.ValuesPacksSaid :=
  over
end Go.Proofs.Ytnbamngancchmaa.valuesPacks
