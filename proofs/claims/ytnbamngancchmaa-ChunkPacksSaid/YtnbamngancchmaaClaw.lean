/- What chunk.Pack packs, the reference packs, and chunk.Unpack reads with anything behind it: the statement ChunkPacks, for every input. No conditions. -/
import Derived.Test.YtnbamngancchmaaCunpack
import Derived.Test.YtnbamngancchmaaRchunk
import Derived.Test.YtnbamngancchmaaSames
import Derived.Test.YtnbamngancchmaaOpenS
import Derived.Test.YtnbamngancchmaaCopy
namespace Go.Proofs.Ytnbamngancchmaa.chunkPacks
open Go.ChangeShapes Go.WideShapes Go.ChangeAt Go.RowKit PB PC

theorem packCB_byte (l : List (Int × Int)) : ∀ x ∈ packCB l, x < 256 := by
  have hP : ∀ x ∈ PS.packB (fsts l), x < 256 := by
    unfold PS.packB; split
    · exact bytesOf_lt _
    · simp
  have hV : ∀ x ∈ PV.packBV (snds l), x < 256 := by
    unfold PV.packBV; split
    · exact bytesOf_lt _
    · simp
  unfold packCB lenB
  split
  · intro x hx
    simp only [List.mem_append] at hx
    rcases hx with (hx | hx | hx) | hx | hx
    · exact vput_byte _ x hx
    · exact vput_byte _ x hx
    · exact hP x hx
    · exact vput_byte _ x hx
    · exact hV x hx
  · simp
theorem packCB_len (l : List (Int × Int)) : (packCB l).length ≤ 30000 := by
  unfold packCB lenB
  split
  · have h1 := packB_small (fsts l)
    have h2 := packBV_small (snds l)
    have h3 := vput_len l.length
    have h4 := vput_len (PS.packB (fsts l)).length
    have h5 := vput_len (PV.packBV (snds l)).length
    simp only [List.length_append]
    omega
  · simp
theorem packCB_pos {l : List (Int × Int)} (h : packCE l = 0) : 0 < (packCB l).length := by
  have h3 := vput_len l.length
  unfold packCB
  rw [if_pos h]
  simp only [List.length_append]
  omega
theorem wpList_append_any {P : Program} {ops : Array Oper} {rest : List Oper} {o : Oper} {a : Act} {w : World} {Q : Exit → Act → World → Prop} (hgd : o.guard = none) (s x : Operand) (t : TypeId)
    (ho : o.op = .call { callee := .builtin .append, args := #[s, x], argTypes := #[t, t] })
    (base : Nat) (e : TypeId) (i : TypeInfo) (z : Value) (bytes : Nat) (ht : P.underlying t = some (.slice e)) (hi : P.info? e = some i) (hz : i.zero = some z)
    (hsize : i.size = 1) (hby : i.bytes = bytes) (hzs : z.cells.size = 1)
    (r cap n : Nat) (xs : List Value) (hs : a.eval s = .slice (some ⟨r, 0, none⟩) n cap) (hown : w.ownsRow base e 1 (.slice (some ⟨r, 0, none⟩) n cap) n xs)
    (A : Option Addr) (m c B : Nat) (ys : List Value) (hx : a.eval x = .slice A m c) (hr : Rd w B A m ys) (h1 : ∀ u ∈ ys, u.oneCell' = true)
    (h63 : n + m ≤ maxLen) (hbytes : (n + m) * bytes ≤ 140737488355328) (hbase : base ≤ w.heap.size)
    (h : ∀ v' w', w'.ownsRow base e 1 v' (n + m) (xs ++ ys) → Below base w w' → wpList P ops Q rest (a.put o.dst v') w') : wpList P ops Q (o :: rest) a w := by
  rcases A with _ | ad
  · obtain ⟨rfl, rfl⟩ := hr.none_zero
    have hcap : n ≤ cap := by
      rcases hown.2 with ⟨h0, _⟩ | ⟨g', cap', cur, hv, _, _, r1, _⟩
      · cases h0
      · injection hv with hv hv1 hv2; omega
    refine wpList_plain hgd fun K hK => ?_
    have hrun : (Builtin.append_ #[t, t] o.type #[.slice (some ⟨r, 0, none⟩) n cap, .slice none 0 c]).run P w = .ok (.slice (some ⟨r, 0, none⟩) n cap) w := by
      simp [Builtin.append_, run_underlying ht, sizeOf, typeInfo, hi, Builtin.lenOf, Builtin.firstCells, loadCells, storeCells, hcap]
    unfold Oper.wp execOp
    simp only [ho, resolve, invoke, builtin, Sem.run_bind, Sem.run_pure, Result.andThen_ok, List.map_toArray, List.map_cons, List.map_nil, hs, hx, hrun]
    exact hK _ _ (h _ _ (by simpa using hown) (Below.refl _ _))
  · refine wpList_append_own_at w hgd s x t ho base e i z 1 bytes ht hi hz hsize hby hzs (by omega) _ n xs hs hown ad m c ys hx (by rw [hr.1, Nat.mul_one]) hr.news h1 h63 hbytes hbase ?_
    intro v' w' hown' hg _ _
    exact h v' w' hown' ((Below.refl _ _).grown hg hbase (fun k hk => (hown.lt k hk).1))

set_option maxRecDepth 100000 in
set_option maxHeartbeats 2000000 in
theorem walk (A1 A2 A3 : Option Addr) (n1 c1 n2 c2 n3 c3 : Nat) (l o : List (Int × Int)) (m : List Nat) (w : World) (h1 : Rs2 w w.heap.size A1 n1 l) (h2 : Rs2 w w.heap.size A2 n2 o) (h3 : Rd w w.heap.size A3 n3 (m.map bv)) (hmb : ∀ x ∈ m, x < 256) (hin64 : PV.In64 (snds l)) :
    Calls Try.prog 10 #[.slice A1 n1 c1, .slice A2 n2 c2, .slice A3 n3 c3] w fun e w' => e = .returned (.bool true) ∧ Below w.heap.size w w' := by
  obtain ⟨i0, hi, hz0, hz1, hz2⟩ := info_parts Try.info5
  have HIN := Lib.hid hin64
  clear hin64
  by_cases hin : n1 ≤ 300 ∧ n2 ≤ 300 ∧ n3 ≤ 1000
  · obtain ⟨m1, m2, m3⟩ := hin
    have HL := Lib.hid h1.1
    have H3 := Lib.hid h3
    have HMB := Lib.hid hmb
    clear h3 hmb
    go_enter Try.func10, Try.ntmps10
    go_wp2_with fail
    refine (alive25 w).mono ?_
    rintro e w1 ⟨rfl, hb1⟩
    have r1 := h1.below hb1
    have hB := hb1.size
    have hq := lent_any A1 n1 c1 w.heap.size l w1 r1 (by omega)
    go_wp2_with fail
    refine hq.mono ?_
    rintro e w2 ⟨r, cap, rfl, hown2, hb2, hcap⟩
    have hp := cpack_any (some ⟨r, 0, none⟩) n1 cap w2.heap.size l w2 (own_rs2 hown2 HL.out) (Nat.le_refl _) (by omega)
    have HB2 : Hid (Below w.heap.size w w2 ∧ w.heap.size ≤ w2.heap.size) := ⟨hb1.trans (hb2.mono hB), Nat.le_trans hB hb2.size⟩
    have HO2 := Lib.hid hown2
    clear hq hown2 hb2 hb1 r1
    go_wp2_with fail
    refine hp.mono ?_
    rintro e w3 ⟨v3, rfl, hown3, hb3⟩
    obtain ⟨N3, hN3⟩ : ∃ N3, N3 = (packCB l).length := ⟨_, rfl⟩
    have hN3b : N3 ≤ 30000 := by rw [hN3]; exact packCB_len l
    rw [← hN3] at hown3
    have HN3 := Lib.hid hN3
    have HB3 : Hid (Below w.heap.size w w3 ∧ w.heap.size ≤ w3.heap.size ∧ Below w2.heap.size w2 w3) := ⟨HB2.out.1.trans (hb3.mono HB2.out.2), Nat.le_trans HB2.out.2 hb3.size, hb3⟩
    have HO3 := Lib.hid hown3
    have hp2 := cpack_any A2 n2 c2 w.heap.size o w3 (h2.below HB3.out.1) HB3.out.2.1 (by omega)
    clear hN3 hp hown3 hb3
    go_wp2_with fail
    refine hp2.mono ?_
    rintro e w5 ⟨v5, rfl, hown5, hb5⟩
    obtain ⟨N5, hN5⟩ : ∃ N5, N5 = (packCB o).length := ⟨_, rfl⟩
    have hN5b : N5 ≤ 30000 := by rw [hN5]; exact packCB_len o
    rw [← hN5] at hown5
    clear hN5
    obtain ⟨A5, c5, rfl, hr5, _⟩ := Rd.of_own hown5
    have HX5 : Hid (∃ ys : List Int, (packCB o).map bv = ys.map (Value.int .u8)) := ⟨(packCB o).map Int.ofNat, by rw [List.map_map]; rfl⟩
    clear hr5 hp2
    go_wp2_with fail
    go_loopw [13] (fun i wr => ∃ (k : Nat) (ys : List Int), k ≤ N5 ∧ i = .int .i64 k ∧ wr.ownsRow w3.heap.size 5 1 (.slice A5 N5 c5) N5 (ys.map (Value.int .u8)) ∧ Below w3.heap.size w3 wr) (fun i _ => N5 - (intOf i).toNat)
    case atStart =>
      obtain ⟨ys, hys⟩ := HX5.out
      exact ⟨0, ys, Nat.zero_le _, rfl, by rw [← hys]; exact hown5, hb5⟩
    case round =>
      obtain ⟨k, ys, hk, rfl, hown, hbl⟩ := hrel
      clear hown5 hb5
      by_cases hlt : k < N5
      · have hyl : ys.length = N5 := by have := hown.1; simpa using this
        obtain ⟨r5, cap5, cur5, hv, _⟩ := own_form hown (by omega)
        injection hv with hv hv1 hv2
        subst hv hv2
        have hx := own_cell hown (i := k) (u := .int .u8 (ys.getD k 0)) (by simp [List.getD, hyl, hlt])
        have hf := own_frozen hown k
        have HS : Hid (∀ u : Int, (wr.setCell ⟨r5, k, none⟩ (.int .u8 u)).ownsRow w3.heap.size 5 1 (.slice (some ⟨r5, 0, none⟩) N5 c5) N5 ((ys.set k u).map (Value.int .u8)) ∧ Below w3.heap.size w3 (wr.setCell ⟨r5, k, none⟩ (.int .u8 u))) := by
          intro u
          refine ⟨?_, hbl.setCell (hown.lt r5 rfl).1 _⟩
          rw [List.map_set]; exact own_set hown k _
        go_wp2_with fail
        go_roundw
        case rel => exact ⟨k + 1, _, by omega, by go_num, (HS.out _).1, (HS.out _).2⟩
        case measure => simp [intOf]; omega
      · obtain rfl : k = N5 := by omega
        obtain ⟨A4, c4, rfl, hr4, _⟩ := Rd.of_own HO3.out
        have HBR : Hid (Below w.heap.size w wr ∧ w.heap.size ≤ wr.heap.size) := ⟨HB3.out.1.trans (hbl.mono HB3.out.2.1), Nat.le_trans HB3.out.2.1 hbl.size⟩
        have hrr := rchunk_any A1 n1 c1 w.heap.size l wr (h1.below HBR.out.1) HBR.out.2 (by omega)
        have HR4 : Hid (Rd wr wr.heap.size A4 N3 ((packCB l).map bv)) := (hr4.below hbl).more hbl.size
        have HF : Hid (wr.ownsRow w1.heap.size 43 2 (.slice (some ⟨r, 0, none⟩) (n1 + 1) cap) (n1 + 1) (sc (l ++ [(-71, 0)]))) :=
          own_kp (own_kp HO2.out (Kp.none_of_below (S := fun _ => False) HB3.out.2.2) (fun _ _ h => h)) (Kp.none_of_below (S := fun _ => False) hbl) (fun _ _ h => h)
        clear hown hbl hr4
        go_wp2_with fail
        refine hrr.mono ?_
        rintro e w6 ⟨v6, rfl, hown6, hb6⟩
        have cv6 := conv_own hown6
        have cv4 := conv_rd (c := c4) (HR4.out.below hb6)
        have HB6 : Hid (Below w.heap.size w w6 ∧ w.heap.size ≤ w6.heap.size) := ⟨HBR.out.1.trans (hb6.mono HBR.out.2), Nat.le_trans HBR.out.2 hb6.size⟩
        have hstay := stay_any A1 n1 c1 w.heap.size r cap w1.heap.size l w6 (own_kp HF.out (Kp.none_of_below (S := fun _ => False) hb6) (fun _ _ h => h)) hcap (h1.below HB6.out.1) (by omega)
        have HR46 := Lib.hid ((HR4.out.below hb6).more hb6.size)
        obtain ⟨E, hE⟩ : ∃ E, E = packCE l := ⟨_, rfl⟩
        rw [← hE]
        have HE := Lib.hid hE
        clear hE hown6 hb6 hrr
        by_cases hE0 : E = 0
        · subst hE0
          have hpos := packCB_pos HE.out.symm
          rw [← HN3.out] at hpos
          have hA4 : ∃ b4 o4, A4 = some ⟨b4, o4, none⟩ := by
            obtain ⟨b4, o4, e, _⟩ := HR46.out.2 hpos
            exact ⟨b4, o4, e⟩
          obtain ⟨b4, o4, rfl⟩ := hA4
          have HN3' : Hid ((packCB l).length = N3) := HN3.out.symm
          go_wp2_with (first | (go_at_call 32; refine (num32 _ _).mono ?_; rintro e w' ⟨rfl, rfl⟩) | (go_at_call 33; refine hstay.mono ?_; rintro e w' ⟨rfl, jj, rfl⟩) | (at_builtin; refine wpList_copy rfl (.const (.slice none 0 0)) (.tmp 92) 24 rfl 5 i0 (.int .u8 0) 1 Try.underlying24 hi hz0 hz1 hz2 rfl rfl (some ⟨b4, o4, none⟩) N3 c4 w'.heap.size ((packCB l).map bv) rfl (HR46.out.drewN jj) (one_bytes _) (by omega) (by unfold maxLen; omega) ?_; intro v7 w7 hown7 hb7; obtain ⟨r7, cap7, _, rfl, _⟩ := own_form hown7 hpos; have hb7' : Below w'.heap.size (w'.drewN jj) w7 := hb7; have hs7 : w'.heap.size ≤ w7.heap.size := hb7'.size) | (at_builtin; refine wpList_append_any rfl (.tmp 93) (.tmp 94) 24 rfl w'.heap.size 5 i0 (.int .u8 0) 1 Try.underlying24 hi hz0 hz1 hz2 rfl r7 cap7 N3 _ rfl hown7 A3 n3 c3 w.heap.size (m.map bv) rfl (H3.out.below ((below_drewN HB6.out.1 jj).trans (hb7'.mono HB6.out.2))) (one_bytes _) (by unfold maxLen; omega) (by omega) hs7 ?_; intro v8 w8 hown8 hb8; obtain ⟨r8, cap8, _, rfl, _, _, hcc1, hcc2, _⟩ := own_form hown8 (by omega)))
          have hr8 : Rd w8 w8.heap.size (some ⟨r8, 0, none⟩) (N3 + n3) ((packCB l ++ m).map bv) := by rw [List.map_append]; exact own_rd0 hown8
          have hby : ∀ x ∈ packCB l ++ m, x < 256 := fun x hx => by
            rcases List.mem_append.1 hx with h | h
            · exact packCB_byte l x h
            · exact HMB.out x h
          have hun := cunpack_any (some ⟨r8, 0, none⟩) (N3 + n3) cap8 w8.heap.size (packCB l ++ m) w8 hr8 (Nat.le_refl _) hcc1 hcc2 (by omega) hby
          have huc := unpackC_pack HIN.out HE.out.symm m
          rw [HN3'.out] at huc
          have hS : ucS (packCB l ++ m) = l := by unfold ucS; rw [huc]
          have hK : ucK (packCB l ++ m) = (N3 : Int) := by unfold ucK; rw [huc]
          have hEE : ucE (packCB l ++ m) = 0 := by unfold ucE; rw [huc]
          unfold UCPost at hun
          rw [hS, hK, hEE, HL.out] at hun
          have HB8 : Hid (Below w.heap.size w w8 ∧ w.heap.size ≤ w8.heap.size) := by
            have h := (below_drewN HB6.out.1 jj).trans ((hb7'.mono HB6.out.2).trans (hb8.mono HB6.out.2))
            exact ⟨h, h.size⟩
          clear hr8 hby huc hS hK hEE hown8 hb8 hown7 hb7 hb7' hs7
          refine hun.mono ?_
          rintro e w9 ⟨v9, rfl, hown9, hb9⟩
          obtain ⟨A9, c9, rfl, hr9, _⟩ := Rs2.of_own hown9
          have HB9 := Lib.hid (HB8.out.1.trans (hb9.mono HB8.out.2))
          have hsm := sameS_any A9 A1 n1 c9 w9.heap.size c1 w.heap.size l w9 hr9 (h1.below HB9.out) (by omega)
          clear hown9 hr9 hb9 hun
          go_wp2_with (first | (go_at_call 32; refine (num32 _ _).mono ?_; rintro e w' ⟨rfl, rfl⟩) | (go_at_call 28; refine hsm.mono ?_; rintro e w' ⟨rfl, j9, rfl⟩))
          go_ret
          exact ⟨rfl, below_drewN HB9.out _⟩
        · have hEb : (E != 0) = true := by simpa using hE0
          clear hE0
          go_wp2_with (first | (go_at_call 32; refine (num32 _ _).mono ?_; rintro e w' ⟨rfl, rfl⟩) | (go_at_call 33; refine hstay.mono ?_; rintro e w' ⟨rfl, jj, rfl⟩))
          go_ret
          exact ⟨rfl, below_drewN HB6.out.1 _⟩
  · have hcase : 300 < n1 ∨ (n1 ≤ 300 ∧ 300 < n2) ∨ (n1 ≤ 300 ∧ n2 ≤ 300 ∧ 1000 < n3) := by omega
    clear hin
    rcases hcase with h4 | ⟨h4, h5⟩ | ⟨h4, h5, h6⟩
    all_goals
      go_enter Try.func10, Try.ntmps10
      go_wp2_with fail
      refine (alive25 w).mono ?_
      rintro e w1 ⟨rfl, hb1⟩
      go_wp2_with fail
      go_ret
      exact ⟨rfl, hb1⟩

set_option maxRecDepth 100000 in
theorem lifted (os : Os) (started : os.Started) (H : Type) (enc : TypeId × Value → H) :
    ReturnsInHanded {} Try.checked os 10 .any (Rows.chunkPacksSpec.pre6 enc Try.prog Try.f10 Rows.chunkPacksRow.domain false) (Rows.chunkPacksSpec.post enc Try.prog Try.f10 false true false false) := by
  refine returnsInHanded_of_change (C := Try.checked) Try.own started (by kernel_rfl) Try.func10
    (ChangeSpec.witness6 (enc := enc) (C := Try.checked) false ⟨#[], #[.slice none 0 0, .slice none 0 0, .slice none 0 0], []⟩ 8 (by kernel_rfl) (by kernel_rfl) (by kernel_rfl) (by kernel_rfl)) ?_
  intro W base args ds gs before hval0 hW hcnd _
  have hval : ∀ (j : Nat) t v, Try.f10.params[j]? = some t → args[j]? = some v → Value.okWide Try.prog W .any base t v := hval0
  have hW' := hW
  obtain ⟨p, q, hA0, hV, rfl, _, _⟩ := hW
  have hA : DataW.TrodAll enc Try.prog W 0 (fun _ => true) true Try.f10.params.toList args.toList ds p := hA0
  rw [Try.params10] at hA hval
  obtain ⟨v0, vs0, d0, ds0, p0, q0, hargs, rfl, rfl, h0, r0⟩ := trodAll_cons hA
  obtain ⟨v1, vs1, d1, ds1, p1, q1, rfl, rfl, rfl, h1, r1⟩ := trodAll_cons r0
  obtain ⟨v2, vs2, d2, ds2, p2, q2, rfl, rfl, rfl, h2, r2⟩ := trodAll_cons r1
  obtain ⟨rfl, rfl, rfl⟩ := trodAll_nil r2
  obtain rfl : args = #[v0, v1, v2] := by cases args; simp_all
  obtain ⟨rfl, rfl⟩ := trodVars_none hV
  have hlt : ∀ x ∈ p0 ++ (p1 ++ (p2 ++ [])), x.block < W.heap.size := fun x hx => by simpa using hW'.lt x (by simpa using hx)
  obtain ⟨A0, n0, c0, l0, rfl, rd0, _, _, in0⟩ := open_rs Try.underlying38 (hval 0 38 v0 rfl rfl) h0 (fun x hx => hlt x (by simp [hx]))
  obtain ⟨A1, n1, c1, l1, rfl, rd1, _⟩ := open_rs Try.underlying38 (hval 1 38 v1 rfl rfl) h1 (fun x hx => hlt x (by simp [hx]))
  obtain ⟨A2, n2, c2, l2, rfl, rd2, _, _, wf2⟩ := open_rd Try.underlying24 Try.underlying5 Try.cells5 (hval 2 24 v2 rfl rfl) h2 (fun x hx => hlt x (by simp [hx]))
  obtain ⟨m2, hm2, hb2⟩ := bytes_nat wf2
  rw [hm2] at rd2
  refine (walk A0 A1 A2 n0 c0 n1 c1 n2 c2 l0 l1 m2 W rd0 rd1 rd2 hb2 in0).mono fun e W' ⟨he, hb⟩ => ?_
  subst he
  exact ⟨_, rfl, law_post Try.laidOut (by kernel_rfl) rfl rfl Try.underlying4 hW' ⟨rfl, rfl, rfl⟩ hb⟩

theorem over : Rows.chunkPacksRow.holds Try.pinned (OpenSpec.ofChange Rows.chunkPacksSpec) :=
  OpenClaim.holds_of_wide 10 Try.f10 rfl rfl rfl rfl rfl rfl rfl ⟨rfl, rfl, rfl, rfl, rfl⟩ rfl rfl rfl rfl rfl (by kernel_rfl) Try.func10 (by kernel_rfl)
    (of_decide_eq_true (by kernel_rfl)) (by unfold Func.isWrapper; first | (rw [if_pos (by decide +kernel)]; kernel_rfl) | (rw [if_neg (by decide +kernel)]; exact ⟨rfl, rfl⟩))
    (fun os started H enc _ => lifted os started H enc)

/-- ████ THE STATEMENT ████ -/
theorem proved : Rows.ChunkPacksSaid :=
  over
end Go.Proofs.Ytnbamngancchmaa.chunkPacks
