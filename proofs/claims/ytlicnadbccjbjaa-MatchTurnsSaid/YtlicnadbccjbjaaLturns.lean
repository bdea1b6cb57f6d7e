/- Of each labels just one of "is" and "is not" fits; what is equal begins so; no matchers fit all. Without conditions. -/
import Derived.Test.YtlicnadbccjbjaaOpenM
import Derived.Test.YtlicnadbccjbjaaRows
import Derived.Test.YtlicnadbccjbjaaChecked
import Derived.ChangeMaps5
namespace Go.Proofs.Ytlicnadbccjbjaa.matchTurns
open Go.ChangeShapes Go.WideShapes Go.ChangeAt Go.RowKit Go.Deep LB

theorem ok_one {k : Int} {nm vl : ByteArray} (hk : 1 ≤ k ∧ k ≤ 3) (h1 : nameB nm = true) (h2 : vl.size ≤ 64) : matOK (k, nm, vl) = true := by
  unfold matOK knownB
  have : ¬ k = 4 := by omega
  simp [h1, h2, this]; omega
theorem fits_one {k : Int} {nm vl : ByteArray} (of : List Lab) (hk : 1 ≤ k ∧ k ≤ 3) (h1 : nameB nm = true) (h2 : vl.size ≤ 64) : fitsB [(k, nm, vl)] of = fit1 of (k, nm, vl) := by
  have hc : chkE [(k, nm, vl)] = 0 := by
    unfold chkE
    rw [if_neg (by simp), if_pos (by simp [ok_one hk h1 h2])]
  unfold fitsB
  rw [hc]; simp
theorem pre_self (l : List UInt8) : Lib.hasPrefix l l = true := by
  unfold Lib.hasPrefix
  rw [List.isPrefixOf_iff_prefix]
  exact List.prefix_refl l
theorem pre_nil (l : List UInt8) : Lib.hasPrefix l [] = true := by cases l <;> rfl

set_option maxRecDepth 100000 in
set_option maxHeartbeats 4000000 in
theorem walk (A0 : Option Addr) (n0 c0 : Nat) (l0 : List Lab) (nm vl : ByteArray) (w : World) (h0 : Lv w w.heap.size A0 n0 l0) (f0 : Fit n0 l0) (_ : nm.size ≤ maxLen) (_ : vl.size ≤ maxLen) :
    Calls Try.prog 6 #[.slice A0 n0 c0, .string nm, .string vl] w fun e w' => e = .returned (.bool true) ∧ Below w.heap.size w w' := by
  have hal := alive16 w
  have hq0 := fun W (h : Lv W w.heap.size A0 n0 l0) => big_any A0 n0 c0 w.heap.size l0 W h f0.2 f0.1
  have hnm := fun W => rname_any nm W
  have HQ0 := Lib.hid hq0
  clear hq0
  obtain ⟨NB, hNB⟩ : ∃ b, b = nameB nm := ⟨_, rfl⟩
  simp only [← hNB] at hnm
  have HNM := Lib.hid hnm
  clear hnm
  by_cases b0 : 4000 < tot l0
  · have D0 := Lib.hid (decide_eq_true b0)
    clear hNB
    go_enter Try.func6, Try.ntmps6
    go_wp2_with fail
    refine hal.mono ?_
    rintro e w1 ⟨rfl, hb1⟩
    go_wp2_with fail
    refine (HQ0.out _ (h0.below hb1)).mono ?_
    rintro e w2 ⟨rfl, k, rfl⟩
    rw [D0.out]
    go_wp2_with fail
    refine (HNM.out _).mono ?_
    rintro e w3 ⟨rfl, hw3⟩; rw [hw3]; clear hw3 w3
    go_wp2_with fail
    go_ret
    exact ⟨rfl, below_drewN hb1 _⟩
  · have D0 := Lib.hid (decide_eq_false b0)
    cases NB with
    | false =>
      clear hNB
      go_enter Try.func6, Try.ntmps6
      go_wp2_with fail
      refine hal.mono ?_
      rintro e w1 ⟨rfl, hb1⟩
      go_wp2_with fail
      refine (HQ0.out _ (h0.below hb1)).mono ?_
      rintro e w2 ⟨rfl, k, rfl⟩
      rw [D0.out]
      go_wp2_with fail
      refine (HNM.out _).mono ?_
      rintro e w3 ⟨rfl, hw3⟩; rw [hw3]; clear hw3 w3
      go_wp2_with fail
      go_ret
      exact ⟨rfl, below_drewN hb1 _⟩
    | true =>
      by_cases h64 : 64 < vl.size
      · have d64 : decide (64 < ((vl.size : Nat) : Int)) = true := decide_eq_true (by omega)
        clear hNB
        go_enter Try.func6, Try.ntmps6
        go_wp2_with fail
        refine hal.mono ?_
        rintro e w1 ⟨rfl, hb1⟩
        go_wp2_with fail
        refine (HQ0.out _ (h0.below hb1)).mono ?_
        rintro e w2 ⟨rfl, k, rfl⟩
        rw [D0.out]
        go_wp2_with fail
        refine (HNM.out _).mono ?_
        rintro e w3 ⟨rfl, hw3⟩; rw [hw3]; clear hw3 w3
        go_wp2_with fail
        go_ret
        exact ⟨rfl, below_drewN hb1 _⟩
      · have d64 : decide (64 < ((vl.size : Nat) : Int)) = false := decide_eq_false (by omega)
        have hn0 : n0 ≤ 1000000 := by have := tot_len l0; have := h0.1; omega
        have hlit := fun (k : Int) (v : ByteArray) (W : World) => mv_lit W 44 [(k, nm, v)] (Nat.zero_lt_succ 0)
        have hqf := fun (k : Int) (v : ByteArray) (W : World) (hb : Below w.heap.size w W) => fits21 _ 1 1 (W.heap.size + 1) [(k, nm, v)] A0 n0 c0 w.heap.size l0 (W.alloc (.cells (mv [(k, nm, v)]).toArray 44)) (hlit k v W) (by simp) ((h0.below hb).below ((Below.refl _ W).alloc hb.size _)) (by simp; have := hb.size; omega) hn0
        have hqn := fun (W : World) (hb : Below w.heap.size w W) => fits21 none 0 0 0 [] A0 n0 c0 w.heap.size l0 W (⟨rfl, fun h => absurd h (by omega)⟩ : Mv W 0 none 0 []) (by omega) (h0.below hb) hb.size hn0
        have i1 := fits_one (k := 1) l0 (by decide) hNB.symm (vl := vl) (by omega)
        have i2 := fits_one (k := 2) l0 (by decide) hNB.symm (vl := vl) (by omega)
        have i3 := fits_one (k := 3) l0 (by decide) hNB.symm (vl := vl) (by omega)
        have i4 := fits_one (k := 3) l0 (by decide) hNB.symm (vl := ⟨#[]⟩) (by decide)
        have i5 : fitsB [] l0 = true := by rfl
        have j1 : fit1 l0 (1, nm, vl) = decide (vOf l0 nm = vl) := rfl
        have j2 : fit1 l0 (2, nm, vl) = !decide (vOf l0 nm = vl) := rfl
        have j3 : fit1 l0 (3, nm, vl) = Lib.hasPrefix (vOf l0 nm).data.toList vl.data.toList := rfl
        have j4 : fit1 l0 (3, nm, ⟨#[]⟩) = true := pre_nil (vOf l0 nm).data.toList
        have himp : decide (vOf l0 nm = vl) = true → Lib.hasPrefix (vOf l0 nm).data.toList vl.data.toList = true := fun h => by
          rw [of_decide_eq_true h]; exact pre_self _
        obtain ⟨IS, hIS⟩ : ∃ b, b = decide (vOf l0 nm = vl) := ⟨_, rfl⟩
        obtain ⟨PR, hPR⟩ : ∃ b, b = Lib.hasPrefix (vOf l0 nm).data.toList vl.data.toList := ⟨_, rfl⟩
        rw [← hIS] at j1 j2 himp
        rw [← hPR] at j3 himp
        have q1 := fun W hb => hqf 1 vl W hb
        have q2 := fun W hb => hqf 2 vl W hb
        have q3 := fun W hb => hqf 3 vl W hb
        have q4 := fun W hb => hqf 3 ⟨#[]⟩ W hb
        simp only [i1, j1] at q1
        simp only [i2, j2] at q2
        simp only [i3, j3] at q3
        simp only [i4, j4] at q4
        simp only [i5] at hqn
        have Q1 := Lib.hid q1
        have Q2 := Lib.hid q2
        have Q3 := Lib.hid q3
        have Q4 := Lib.hid q4
        have QN := Lib.hid hqn
        have hcase : (IS = false) ∨ (IS = true ∧ PR = true) := by
          cases IS
          · exact .inl rfl
          · exact .inr ⟨rfl, himp rfl⟩
        clear hlit hqf hqn i1 i2 i3 i4 i5 j1 j2 j3 j4 himp hIS hPR q1 q2 q3 q4 hNB
        have hst : ∀ (W W' : World) (X : Obj), Below w.heap.size w W → Below (W.alloc X).heap.size (W.alloc X) W' → Below w.heap.size w W' := fun _ _ _ h k => (h.alloc h.size _).trans (k.mono (by simp; have := h.size; omega))
        have HST := Lib.hid hst
        clear hst
        have body : ∀ (I P : Bool), IS = I → (I = true → PR = true) → Calls Try.prog 6 #[.slice A0 n0 c0, .string nm, .string vl] w fun e w' => e = .returned (.bool true) ∧ Below w.heap.size w w' := by
          intro I P hI hP
          subst hI
          cases IS
          all_goals
            try (have hP2 := hP rfl; subst hP2)
            clear hP hcase
            go_enter Try.func6, Try.ntmps6
            go_wp2_with fail
            refine hal.mono ?_
            rintro e w1 ⟨rfl, hb1⟩
            go_wp2_with fail
            refine (HQ0.out _ (h0.below hb1)).mono ?_
            rintro e w2 ⟨rfl, k, rfl⟩
            rw [D0.out]
            go_wp2_with fail
            refine (HNM.out _).mono ?_
            rintro e w3 ⟨rfl, hw3⟩; rw [hw3]; clear hw3 w3
            have b2 := below_drewN hb1 k
            go_wp2_with fail
            refine (Q1.out _ b2).mono ?_
            rintro e w3 ⟨rfl, hb3⟩
            have b3 := HST.out _ _ _ b2 hb3
            go_wp2_with fail
            refine (Q2.out _ b3).mono ?_
            rintro e w4 ⟨rfl, hb4⟩
            have b4 := HST.out _ _ _ b3 hb4
            go_wp2_with fail
            refine (Q3.out _ b4).mono ?_
            rintro e w5 ⟨rfl, hb5⟩
            have b5 := HST.out _ _ _ b4 hb5
            go_wp2_with fail
            refine (Q4.out _ b5).mono ?_
            rintro e w6 ⟨rfl, hb6⟩
            have b6 := HST.out _ _ _ b5 hb6
            go_wp2_with fail
            refine (QN.out _ b6).mono ?_
            rintro e w7 ⟨rfl, hb7⟩
            have HE := Lib.hid (b6.trans (hb7.mono b6.size))
            go_wp2_with fail
            go_ret
            exact ⟨rfl, HE.out⟩
        rcases hcase with h | ⟨h, h'⟩
        · exact body false PR h (fun h => by cases h)
        · exact body true PR h (fun _ => h')
set_option maxRecDepth 100000 in
theorem lifted (os : Os) (started : os.Started) (H : Type) (enc : TypeId × Value → H) :
    ReturnsInHanded {} Try.checked os 6 .any (Rows.matchTurnsSpec.pre6 enc Try.prog Try.f6 Rows.matchTurnsRow.domain false) (Rows.matchTurnsSpec.post enc Try.prog Try.f6 false true false false) := by
  refine returnsInHanded_of_change_sized (C := Try.checked) Try.own started (by kernel_rfl) Try.func6
    (ChangeSpec.witness6 (enc := enc) (C := Try.checked) false ⟨#[], #[.slice none 0 0, .string ⟨#[]⟩, .string ⟨#[]⟩], []⟩ 8 (by kernel_rfl) (by kernel_rfl) (by kernel_rfl) (by kernel_rfl)) ?_
  intro W base args ds gs before hval0 hW hcnd hwt0 _
  have hval : ∀ (j : Nat) t v, Try.f6.params[j]? = some t → args[j]? = some v → Value.okWide Try.prog W .any base t v := hval0
  have hwt : ∀ n ∈ DataW.weightsEach Try.prog (Try.f6.params.toList ++ Rows.matchTurnsSpec.plain.varTypes Try.prog) (ds ++ gs), n ≤ reachBytes := fun n hn => by
    have := List.all_eq_true.1 hwt0 n hn
    simpa using this
  have hW' := hW
  obtain ⟨p, q, hA0, hV, rfl, _, _⟩ := hW
  have hA : DataW.TrodAll enc Try.prog W 0 (fun _ => true) true Try.f6.params.toList args.toList ds p := hA0
  rw [Try.params6] at hA hval hwt
  obtain ⟨v0, vs0, d0, ds0, p0, q0, hargs, rfl, rfl, h0, r0⟩ := trodAll_cons hA
  obtain ⟨v1, vs1, d1, ds1, p1, q1, rfl, rfl, rfl, h1, r1⟩ := trodAll_cons r0
  obtain ⟨v2, vs2, d2, ds2, p2, q2, rfl, rfl, rfl, h2, r2⟩ := trodAll_cons r1
  obtain ⟨rfl, rfl, rfl⟩ := trodAll_nil r2
  obtain rfl : args = #[v0, v1, v2] := by cases args; simp_all
  obtain ⟨rfl, rfl⟩ := trodVars_none hV
  have hlt : ∀ x, (x ∈ p0 ∨ x ∈ p1 ∨ x ∈ p2) → x.block < W.heap.size := fun x hx => hW'.lt x (by simpa using hx)
  obtain ⟨A0, n0, c0, l0, rfl, rd0, hnc0, hcm0, ft0⟩ := open_lv Try.underlying22 (hval 0 22 v0 rfl rfl) h0 (fun x hx => hlt x (by simp [hx])) (fun n hn => hwt n (DataW.weights_mem_each (j := 0) rfl rfl n hn))
  obtain ⟨s1, rfl, rfl, rfl, ws1⟩ := Go.ChangeMaps.open_string (P := Try.prog) Try.underlying9 (hval 1 9 v1 rfl rfl) h1
  obtain ⟨s2, rfl, rfl, rfl, ws2⟩ := Go.ChangeMaps.open_string (P := Try.prog) Try.underlying9 (hval 2 9 v2 rfl rfl) h2
  refine (walk A0 n0 c0 l0 s1 s2 W rd0 ft0 ws1 ws2).mono fun e W' ⟨he, hb⟩ => ?_
  subst he
  exact ⟨_, rfl, law_post Try.laidOut (by kernel_rfl) rfl rfl Try.underlying4 hW' ⟨rfl, rfl, rfl⟩ hb⟩

theorem over : Rows.matchTurnsRow.holds Try.pinned (OpenSpec.ofChange Rows.matchTurnsSpec) :=
  OpenClaim.holds_of_wide 6 Try.f6 rfl rfl rfl rfl rfl rfl rfl ⟨rfl, rfl, rfl, rfl, rfl⟩ rfl rfl rfl rfl rfl (by kernel_rfl) Try.func6 (by kernel_rfl)
    (of_decide_eq_true (by kernel_rfl)) (by unfold Func.isWrapper; first | (rw [if_pos (by decide +kernel)]; kernel_rfl) | (rw [if_neg (by decide +kernel)]; exact ⟨rfl, rfl⟩))
    (fun os started H enc _ => lifted os started H enc)

/-- THE STATEMENT. -/
theorem proved : Rows.MatchTurnsSaid :=
  over
end Go.Proofs.Ytlicnadbccjbjaa.matchTurns
