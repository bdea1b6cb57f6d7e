/- What chunk.Unpack reads of whatever bytes, the reference reads too: the statement ChunkReads, for every input. No conditions. -/
import Derived.Test.YtnbamngancchmaaRreadc
import Derived.Test.YtnbamngancchmaaSames
import Derived.Test.YtnbamngancchmaaCopy
namespace Go.Proofs.Ytnbamngancchmaa.chunkReads
open Go.ChangeShapes Go.WideShapes Go.ChangeAt Go.RowKit PB PC

theorem ucS_len (l : List Nat) (hb : ∀ x ∈ l, x < 256) : (ucS l).length ≤ 120 := by
  unfold ucS
  cases h : unpackC l with
  | none => simp
  | some a =>
    obtain ⟨s, e⟩ := a
    show s.length ≤ 120
    unfold unpackC at h
    cases hv : vget l with
    | none => rewrite [hv] at h; cases h
    | some uk =>
      rewrite [hv, Option.bind_some] at h
      split at h
      · cases h
      · rename_i hN
        cases h2 : cutL (l.drop uk.2) with
        | none => rewrite [h2] at h; cases h
        | some x =>
          rewrite [h2, Option.bind_some] at h
          cases h3 : cutL (l.drop (uk.2 + x.2)) with
          | none => rewrite [h3] at h; cases h
          | some y =>
            rewrite [h3, Option.bind_some] at h
            cases h4 : PS.unpack x.1 (wrap64 (uk.1 : Int)).toNat with
            | none => rewrite [h4] at h; cases h
            | some t =>
              rewrite [h4, Option.bind_some] at h
              cases h5 : PV.unpackV none y.1 (wrap64 (uk.1 : Int)).toNat with
              | none => rewrite [h5] at h; cases h
              | some v =>
                rewrite [h5, Option.map_some] at h
                have ht := (unpack_some h4).1
                injection h with h
                injection h with h _
                rewrite [← h, List.length_zip]
                obtain ⟨M, hM⟩ : ∃ M, M = wrap64 (uk.1 : Int) := ⟨_, rfl⟩
                rewrite [← hM] at ht hN
                clear h5 h4 hM hv h2 h3 h
                omega

set_option maxRecDepth 100000 in
set_option maxHeartbeats 2000000 in
theorem walk (A1 : Option Addr) (n1 c1 : Nat) (l : List Nat) (w : World) (h1 : Rd w w.heap.size A1 n1 (l.map bv)) (hnc : n1 ≤ c1) (hcm : c1 ≤ maxLen) (hb : ∀ x ∈ l, x < 256) :
    Calls Try.prog 11 #[.slice A1 n1 c1] w fun e w' => e = .returned (.bool true) ∧ Below w.heap.size w w' := by
  obtain ⟨i0, hi, hz0, hz1, hz2⟩ := info_parts Try.info5
  have HCM := Lib.hid hcm
  clear hcm
  by_cases hin : n1 ≤ 3000
  · go_enter Try.func11, Try.ntmps11
    go_wp2_with fail
    refine (alive25 w).mono ?_
    rintro e w1 ⟨rfl, hb1⟩
    have r1 := h1.below hb1
    have hB := hb1.size
    go_wp2_with (at_builtin; refine wpList_copy rfl (.const (.slice none 0 0)) (.tmp 20) 24 rfl 5 i0 (.int .u8 0) 1 Try.underlying24 hi hz0 hz1 hz2 rfl rfl A1 n1 c1 w.heap.size (l.map bv) rfl r1 (one_bytes l) (by omega) (by unfold maxLen; omega) ?_; intro v2 w2 hown2 hb2; obtain ⟨A2, c2, rfl, hr2, hcc⟩ := Rd.of_own hown2)
    have hq := cunpack_any A2 n1 c2 w2.heap.size l w2 hr2 (Nat.le_refl _) hcc.1 hcc.2 (by omega) hb
    refine hq.mono ?_
    rintro e w3 ⟨v3, rfl, hown3, hb3⟩
    have s2 := hb2.size
    have s3 := hb3.size
    have HB3 : Hid (Below w.heap.size w w3) := hb1.trans ((hb2.mono hB).trans (hb3.mono (by omega)))
    have hq2 := rreadchunk_any A1 n1 c1 w.heap.size l w3 (h1.below HB3.out) HB3.out.size hnc HCM.out (by omega) hb
    have hsl := ucS_len l hb
    obtain ⟨S, hS⟩ : ∃ S, S = ucS l := ⟨_, rfl⟩
    obtain ⟨E, hE⟩ : ∃ E, E = ucE l := ⟨_, rfl⟩
    obtain ⟨K, hK⟩ : ∃ K, K = ucK l := ⟨_, rfl⟩
    unfold UCPost at hq2
    rw [← hS, ← hE, ← hK] at hq2
    rw [← hS] at hown3 hsl
    rw [← hE, ← hK]
    obtain ⟨N, hN⟩ : ∃ N, N = S.length := ⟨_, rfl⟩
    rw [← hN] at hown3 hsl hq2
    clear hE hown2 hr2 hb2 hb1 r1 hq hS hK hN
    go_wp2_with fail
    refine hq2.mono ?_
    rintro e w4 ⟨v4, rfl, hown4, hb4⟩
    obtain ⟨A3, c3, rfl, hr3, _⟩ := Rs2.of_own hown3
    obtain ⟨A4, c4, rfl, hr4, _⟩ := Rs2.of_own hown4
    have hsame := sameS_any A3 A4 N c3 w3.heap.size c4 w4.heap.size S w4 (hr3.below hb4) hr4 (by omega)
    have HB4 : Hid (Below w.heap.size w w4) := HB3.out.trans (hb4.mono HB3.out.size)
    clear hown3 hown4 hr3 hr4 hb4 hb3 hq2
    go_wp2_with (first | (go_at_call 32; refine (num32 _ _).mono ?_; rintro e w' ⟨rfl, rfl⟩) | (go_at_call 28; refine hsame.mono ?_; rintro e w' ⟨rfl, j, rfl⟩))
    go_ret
    exact ⟨rfl, below_drewN HB4.out _⟩
  · go_enter Try.func11, Try.ntmps11
    go_wp2_with fail
    refine (alive25 w).mono ?_
    rintro e w1 ⟨rfl, hb1⟩
    go_wp2_with fail
    go_ret
    exact ⟨rfl, hb1⟩

set_option maxRecDepth 100000 in
theorem lifted (os : Os) (started : os.Started) (H : Type) (enc : TypeId × Value → H) :
    ReturnsInHanded {} Try.checked os 11 .any (Rows.chunkReadsSpec.pre6 enc Try.prog Try.f11 Rows.chunkReadsRow.domain false) (Rows.chunkReadsSpec.post enc Try.prog Try.f11 false true false false) := by
  refine returnsInHanded_of_change (C := Try.checked) Try.own started (by kernel_rfl) Try.func11
    (ChangeSpec.witness6 (enc := enc) (C := Try.checked) false ⟨#[], #[.slice none 0 0], []⟩ 8 (by kernel_rfl) (by kernel_rfl) (by kernel_rfl) (by kernel_rfl)) ?_
  intro W base args ds gs before hval0 hW hcnd _
  have hval : ∀ (j : Nat) t v, Try.f11.params[j]? = some t → args[j]? = some v → Value.okWide Try.prog W .any base t v := hval0
  have hW' := hW
  obtain ⟨p, q, hA0, hV, rfl, _, _⟩ := hW
  have hA : DataW.TrodAll enc Try.prog W 0 (fun _ => true) true Try.f11.params.toList args.toList ds p := hA0
  rw [Try.params11] at hA hval
  obtain ⟨v0, vs0, d0, ds0, p0, q0, hargs, rfl, rfl, h0, r0⟩ := trodAll_cons hA
  obtain ⟨rfl, rfl, rfl⟩ := trodAll_nil r0
  obtain rfl : args = #[v0] := by cases args; simp_all
  obtain ⟨rfl, rfl⟩ := trodVars_none hV
  have hlt : ∀ x ∈ p0 ++ [], x.block < W.heap.size := fun x hx => by simpa using hW'.lt x (by simpa using hx)
  obtain ⟨A0, n0, c0, l0, rfl, rd0, hc0, hm0', wf0⟩ := open_rd Try.underlying24 Try.underlying5 Try.cells5 (hval 0 24 v0 rfl rfl) h0 (fun x hx => hlt x (by simp [hx]))
  obtain ⟨m0, hm0, hb0⟩ := bytes_nat wf0
  rw [hm0] at rd0
  refine (walk A0 n0 c0 m0 W rd0 hc0 hm0' hb0).mono fun e W' ⟨he, hb⟩ => ?_
  subst he
  exact ⟨_, rfl, law_post Try.laidOut (by kernel_rfl) rfl rfl Try.underlying4 hW' ⟨rfl, rfl, rfl⟩ hb⟩

theorem over : Rows.chunkReadsRow.holds Try.pinned (OpenSpec.ofChange Rows.chunkReadsSpec) :=
  OpenClaim.holds_of_wide 11 Try.f11 rfl rfl rfl rfl rfl rfl rfl ⟨rfl, rfl, rfl, rfl, rfl⟩ rfl rfl rfl rfl rfl (by kernel_rfl) Try.func11 (by kernel_rfl)
    (of_decide_eq_true (by kernel_rfl)) (by unfold Func.isWrapper; first | (rw [if_pos (by decide +kernel)]; kernel_rfl) | (rw [if_neg (by decide +kernel)]; exact ⟨rfl, rfl⟩))
    (fun os started H enc _ => lifted os started H enc)

/-- ████ THE STATEMENT ████ -/
theorem proved : Rows.ChunkReadsSaid :=
  over
end Go.Proofs.Ytnbamngancchmaa.chunkReads
