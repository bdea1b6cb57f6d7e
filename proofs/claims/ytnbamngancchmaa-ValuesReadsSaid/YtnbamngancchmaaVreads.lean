/- What values.Unpack reads of whatever bytes, the reference reads too: the statement ValuesReads, for every input. No conditions. -/
import Derived.Test.YtnbamngancchmaaRefReadV
import Derived.Test.YtnbamngancchmaaCopy
namespace Go.Proofs.Ytnbamngancchmaa.valuesReads
open Go.ChangeShapes Go.WideShapes Go.ChangeAt Go.RowKit PB PV

set_option maxRecDepth 100000 in
set_option maxHeartbeats 2000000 in
theorem walk (A1 : Option Addr) (n1 c1 : Nat) (m : Int) (l : List Nat) (w : World) (h1 : Rd w w.heap.size A1 n1 (l.map bv)) (hb : ∀ x ∈ l, x < 256) :
    Calls Try.prog 8 #[.slice A1 n1 c1, .int .i64 m] w fun e w' => e = .returned (.bool true) ∧ Below w.heap.size w w' := by
  obtain ⟨i0, hi, hz0, hz1, hz2⟩ := info_parts Try.info5
  by_cases hin : n1 ≤ 2000
  · go_enter Try.func8, Try.ntmps8
    go_wp2_with fail
    refine (alive15 w).mono ?_
    rintro e w1 ⟨rfl, hb1⟩
    have r1 := h1.below hb1
    have hB := hb1.size
    go_wp2_with (at_builtin; refine wpList_copy rfl (.const (.slice none 0 0)) (.tmp 20) 24 rfl 5 i0 (.int .u8 0) 1 Try.underlying24 hi hz0 hz1 hz2 rfl rfl A1 n1 c1 w.heap.size (l.map bv) rfl r1 (one_bytes l) (by omega) (by unfold maxLen; omega) ?_; intro v2 w2 hown2 hb2; obtain ⟨A2, c2, rfl, hr2, hcc⟩ := Rd.of_own hown2)
    have hq := vunpack_any A2 n1 c2 w2.heap.size m l w2 hr2 (Nat.le_refl _) (by omega) hb
    refine hq.mono ?_
    rintro e w3 ⟨v3, rfl, hown3, hb3⟩
    have s2 := hb2.size
    have s3 := hb3.size
    have HB3 : Hid (Below w.heap.size w w3) := hb1.trans ((hb2.mono hB).trans (hb3.mono (by omega)))
    have hq2 := rreadv_any A1 n1 c1 w.heap.size m l w3 (h1.below HB3.out) HB3.out.size (by omega) hb
    obtain ⟨L, hL⟩ : ∃ L, L = unpackVL l m := ⟨_, rfl⟩
    obtain ⟨E, hE⟩ : ∃ E, E = unpackVE l m := ⟨_, rfl⟩
    unfold UVPost at hq2
    rw [← hL, ← hE] at hq2
    rw [← hL] at hown3
    rw [← hE]
    have hLb : L.length ≤ 1000 := by
      rw [hL]; unfold unpackVL
      split
      · simp
      · split
        · simp
        · unfold unpackV
          cases hr : runV none (bitsOf l) m.toNat with
          | none => simp
          | some s =>
            have := runV_length hr
            rw [Option.bind_some]
            split <;> simp <;> omega
    clear hL hE hown2 hr2 hb2 hb1 r1 hq
    go_wp2_with fail
    refine hq2.mono ?_
    rintro e w4 ⟨v4, rfl, hown4, hb4⟩
    obtain ⟨A3, c3, rfl, hr3, _⟩ := Rd.of_own hown3
    obtain ⟨A4, c4, rfl, hr4, _⟩ := Rd.of_own hown4
    have hsame := sameInts_any A3 A4 L.length c3 w3.heap.size L.length c4 w4.heap.size L L w4 (hr3.below hb4) hr4 (by omega) (by omega)
    rw [decide_eq_true rfl] at hsame
    have HB4 : Hid (Below w.heap.size w w4) := HB3.out.trans (hb4.mono HB3.out.size)
    clear hown3 hown4 hr3 hr4 hb4 hb3 hq2
    go_wp2_with (first | (go_at_call 17; refine (num17 _ _).mono ?_; rintro e w' ⟨rfl, rfl⟩) | (go_at_call 19; refine hsame.mono ?_; rintro e w' ⟨rfl, j, rfl⟩))
    go_ret
    exact ⟨rfl, below_drewN HB4.out _⟩
  · go_enter Try.func8, Try.ntmps8
    go_wp2_with fail
    refine (alive15 w).mono ?_
    rintro e w1 ⟨rfl, hb1⟩
    go_wp2_with fail
    go_ret
    exact ⟨rfl, hb1⟩

set_option maxRecDepth 100000 in
theorem lifted (os : Os) (started : os.Started) (H : Type) (enc : TypeId × Value → H) :
    ReturnsInHanded {} Try.checked os 8 .any (Rows.valuesReadsSpec.pre6 enc Try.prog Try.f8 Rows.valuesReadsRow.domain false) (Rows.valuesReadsSpec.post enc Try.prog Try.f8 false true false false) := by
  refine returnsInHanded_of_change (C := Try.checked) Try.own started (by kernel_rfl) Try.func8
    (ChangeSpec.witness6 (enc := enc) (C := Try.checked) false ⟨#[], #[.slice none 0 0, .int .i64 0], []⟩ 8 (by kernel_rfl) (by kernel_rfl) (by kernel_rfl) (by kernel_rfl)) ?_
  intro W base args ds gs before hval0 hW hcnd _
  have hval : ∀ (j : Nat) t v, Try.f8.params[j]? = some t → args[j]? = some v → Value.okWide Try.prog W .any base t v := hval0
  have hW' := hW
  obtain ⟨p, q, hA0, hV, rfl, _, _⟩ := hW
  have hA : DataW.TrodAll enc Try.prog W 0 (fun _ => true) true Try.f8.params.toList args.toList ds p := hA0
  rw [Try.params8] at hA hval
  obtain ⟨v0, vs0, d0, ds0, p0, q0, hargs, rfl, rfl, h0, r0⟩ := trodAll_cons hA
  obtain ⟨v1, vs1, d1, ds1, p1, q1, rfl, rfl, rfl, h1, r1⟩ := trodAll_cons r0
  obtain ⟨rfl, rfl, rfl⟩ := trodAll_nil r1
  obtain rfl : args = #[v0, v1] := by cases args; simp_all
  obtain ⟨rfl, rfl⟩ := trodVars_none hV
  have hlt : ∀ x ∈ p0 ++ (p1 ++ []), x.block < W.heap.size := fun x hx => by simpa using hW'.lt x (by simpa using hx)
  obtain ⟨A0, n0, c0, l0, rfl, rd0, _, _, wf0⟩ := open_rd Try.underlying24 Try.underlying5 Try.cells5 (hval 0 24 v0 rfl rfl) h0 (fun x hx => hlt x (by simp [hx]))
  obtain ⟨a1, rfl, rfl, rfl, w1⟩ := open_int Try.underlying3 (hval 1 3 v1 rfl rfl) h1
  obtain ⟨m0, hm0, hb0⟩ := bytes_nat wf0
  rw [hm0] at rd0
  refine (walk A0 n0 c0 a1 m0 W rd0 hb0).mono fun e W' ⟨he, hb⟩ => ?_
  subst he
  exact ⟨_, rfl, law_post Try.laidOut (by kernel_rfl) rfl rfl Try.underlying4 hW' ⟨rfl, rfl, rfl⟩ hb⟩

theorem over : Rows.valuesReadsRow.holds Try.pinned (OpenSpec.ofChange Rows.valuesReadsSpec) :=
  OpenClaim.holds_of_wide 8 Try.f8 rfl rfl rfl rfl rfl rfl rfl ⟨rfl, rfl, rfl, rfl, rfl⟩ rfl rfl rfl rfl rfl (by kernel_rfl) Try.func8 (by kernel_rfl)
    (of_decide_eq_true (by kernel_rfl)) (by unfold Func.isWrapper; first | (rw [if_pos (by decide +kernel)]; kernel_rfl) | (rw [if_neg (by decide +kernel)]; exact ⟨rfl, rfl⟩))
    (fun os started H enc _ => lifted os started H enc)

/-- ████ THE STATEMENT ████ -/
theorem proved : Rows.ValuesReadsSaid :=
  over
end Go.Proofs.Ytnbamngancchmaa.valuesReads
