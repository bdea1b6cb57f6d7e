/- A name that was not made sure is there or not behind a crash. Without conditions. -/
import Derived.Test.YtedjfbkfaioihaaOne
import Derived.Test.YtedjfbkfaioihaaRows
import Derived.Test.YtedjfbkfaioihaaChecked
namespace Go.Proofs.Ytedjfbkfaioihaa.diskLost
open Go.ChangeShapes Go.WideShapes Go.ChangeAt Go.RowKit Go.Deep

set_option maxRecDepth 100000 in
set_option maxHeartbeats 4000000 in
theorem walk (a b : Int) (kept : Bool) (c : Int) (w : World) : Calls Try.prog 6 #[.int .i64 a, .int .i64 b, .bool kept, .int .i64 c] w fun e w' => e = .returned (.bool true) ∧ Below w.heap.size w w' := by
  have hal := alive11 w
  by_cases o0 : a < 0
  · have p0 : decide (a < 0) = true := decide_eq_true o0
    go_enter Try.func6, Try.ntmps6
    go_wp2_with fail
    refine hal.mono ?_
    rintro e w1 ⟨rfl, hb1⟩
    go_wp2_with fail
    go_ret
    exact ⟨rfl, hb1⟩
  have p0 : decide (a < 0) = false := decide_eq_false o0
  by_cases o1 : 2000 < a
  · have p1 : decide (2000 < a) = true := decide_eq_true o1
    go_enter Try.func6, Try.ntmps6
    go_wp2_with fail
    refine hal.mono ?_
    rintro e w1 ⟨rfl, hb1⟩
    go_wp2_with fail
    go_ret
    exact ⟨rfl, hb1⟩
  have p1 : decide (2000 < a) = false := decide_eq_false o1
  by_cases o2 : b < 0
  · have p2 : decide (b < 0) = true := decide_eq_true o2
    go_enter Try.func6, Try.ntmps6
    go_wp2_with fail
    refine hal.mono ?_
    rintro e w1 ⟨rfl, hb1⟩
    go_wp2_with fail
    go_ret
    exact ⟨rfl, hb1⟩
  have p2 : decide (b < 0) = false := decide_eq_false o2
  by_cases o3 : 2000 < b
  · have p3 : decide (2000 < b) = true := decide_eq_true o3
    go_enter Try.func6, Try.ntmps6
    go_wp2_with fail
    refine hal.mono ?_
    rintro e w1 ⟨rfl, hb1⟩
    go_wp2_with fail
    go_ret
    exact ⟨rfl, hb1⟩
  have p3 : decide (2000 < b) = false := decide_eq_false o3
  by_cases o4 : c < 0
  · have p4 : decide (c < 0) = true := decide_eq_true o4
    go_enter Try.func6, Try.ntmps6
    go_wp2_with fail
    refine hal.mono ?_
    rintro e w1 ⟨rfl, hb1⟩
    go_wp2_with fail
    go_ret
    exact ⟨rfl, hb1⟩
  have p4 : decide (c < 0) = false := decide_eq_false o4
  by_cases o5 : 4000 < c
  · have p5 : decide (4000 < c) = true := decide_eq_true o5
    go_enter Try.func6, Try.ntmps6
    go_wp2_with fail
    refine hal.mono ?_
    rintro e w1 ⟨rfl, hb1⟩
    go_wp2_with fail
    go_ret
    exact ⟨rfl, hb1⟩
  have p5 : decide (4000 < c) = false := decide_eq_false o5
  by_cases hr : 0 ≤ a ∧ a ≤ 2000 ∧ 0 ≤ b ∧ b ≤ 2000 ∧ 0 ≤ c ∧ c ≤ 4000
  · obtain ⟨m, rfl⟩ : ∃ m : Nat, a = m := ⟨a.toNat, by omega⟩
    obtain ⟨n, rfl⟩ : ∃ n : Nat, b = n := ⟨b.toNat, by omega⟩
    obtain ⟨k, rfl⟩ : ∃ k : Nat, c = k := ⟨c.toNat, by omega⟩
    have hm : m ≤ 2000 := by omega
    have hn : n ≤ 2000 := by omega
    have hk : k ≤ 4000 := by omega
    have d1 : decide ((m : Int) < 0) = false := decide_eq_false (by omega)
    have d2 : decide ((2000 : Int) < (m : Int)) = false := decide_eq_false (by omega)
    have d3 : decide ((n : Int) < 0) = false := decide_eq_false (by omega)
    have d4 : decide ((2000 : Int) < (n : Int)) = false := decide_eq_false (by omega)
    have d5 : decide ((k : Int) < 0) = false := decide_eq_false (by omega)
    have d6 : decide ((4000 : Int) < (k : Int)) = false := decide_eq_false (by omega)
    have hmk := Try.made m (by omega)
    have hmk2 := Try.made n (by omega)
    clear hr o0 o1 o2 o3 o4 o5 p0 p1 p2 p3 p4 p5
    go_enter Try.func6, Try.ntmps6
    go_wp2_with fail
    refine hal.mono ?_
    clear hal
    rintro e w1 ⟨rfl, hb1⟩
    go_wp2_with fail
    refine (At.new 1048576 hb1).mono ?_
    clear hb1
    rintro e w2 ⟨D, rfl, h2⟩
    have c1 := h2.mkA (by decide)
    go_wp2_with fail
    refine c1.mono ?_
    clear c1 h2
    rintro e w3 ⟨rfl, h3⟩
    have h3b := h3.below ((Below.refl _ w3).alloc (Nat.le_refl _) (.cells (madeCells #[.int .u8 0] m) 5))
    have c1 := h3b.appA _ m (zeros m) m (zeros_len m) (made_rd w3 m (by omega)) (zeros_lt m) (by show 0 + m ≤ _; omega) (by show ((0 + m : Nat) : Int) ≤ _; omega) (by decide) (by decide) (by decide)
    clear h3 h3b
    go_wp2_with fail
    refine c1.mono ?_
    clear c1
    rintro e w4 ⟨rfl, h4⟩
    have c1 := h4.synA (by show (zeros m).length ≤ _; rw [zeros_len]; omega) (by decide) (by decide) (by decide)
    clear h4
    go_wp2_with fail
    refine c1.mono ?_
    clear c1
    rintro e w5 ⟨rfl, h5⟩
    have h5' : At w w5 D (one 1048576 (zeros m) (zeros m).length [] acA false (-1) (-1) 3) := h5
    have h5b := h5'.below ((Below.refl _ w5).alloc (Nat.le_refl _) (.cells (madeCells #[.int .u8 0] n) 5))
    have c1 := h5b.appA _ n (zeros n) n (zeros_len n) (made_rd w5 n (by omega)) (zeros_lt n) (by rw [zeros_len]; omega) (by rw [zeros_len]; omega) (by decide) (by decide) (by decide)
    clear h5 h5' h5b
    go_wp2_with fail
    refine c1.mono ?_
    clear c1
    rintro e w6 ⟨rfl, h6⟩
    have h6' : At w w6 D (one 1048576 (zeros m ++ zeros n) (zeros m).length [] acA false (-1) (-1) 4) := h6
    clear h6 hmk hmk2
    have hlen : (zeros m ++ zeros n).length = m + n := by rw [List.length_append, zeros_len, zeros_len]
    cases kept
    · have c1 := h6'.crash_new (w6.alloc (.cells #[.int .i64 0, .int .i64 k, .int .i64 0] 3)) w6.heap.size 3 [0, (k : Int), 0] ((Below.refl _ w6).alloc (Nat.le_refl _) _) (Arr.new w6 3 _) (Nat.le_refl _) rfl (by decide) (by show (1 : Nat) ≤ 1000000; omega) (one_fs (P := fun x => x.b.length ≤ 1000000000) (by show (zeros m ++ zeros n).length ≤ _; omega))
      rw [one_crash_no rfl] at c1
      clear h6'
      go_wp2_with fail
      refine c1.mono ?_
      clear c1
      rintro e w7 ⟨rfl, h7⟩
      have c1 := h7.read nA (by decide) (by intro x hx; have hx' : x = ⟨zeros m ++ zeros n, (zeros m).length⟩ := (by simpa using hx); rw [hx']; show (zeros m ++ zeros n).length ≤ _; omega)
      have c2 := fun W (hW : At w W D _) => At.list (st := ⟨1048576, [⟨zeros m ++ zeros n, (zeros m).length⟩], [], [], [], false, -1, -1, 4⟩) hW (by show (0 : Nat) ≤ 1000000; omega)
      clear h7
      go_wp2_with fail
      refine c1.mono ?_
      clear c1
      rintro e w8 ⟨h8, v, rfl, hown, _⟩
      have e1 : readE ⟨1048576, [⟨zeros m ++ zeros n, (zeros m).length⟩], [], [], [], false, -1, -1, 4⟩ nA = 6 := rfl
      rw [e1]
      clear hown e1
      have c3 := c2 w8 h8
      clear c2 h8
      go_wp2_with fail
      refine (num17 _ _).mono ?_
      rintro e w9 ⟨rfl, hw9⟩
      rw [hw9]
      clear hw9 w9
      go_wp2_with fail
      refine c3.mono ?_
      clear c3
      rintro e w9 ⟨v2, rfl, hown, h9⟩
      obtain ⟨A, c, rfl⟩ := own_slice hown
      have HB := Lib.hid h9.1
      clear hown h9
      go_wp2_with fail
      go_ret
      exact ⟨rfl, HB.out⟩
    · have c1 := h6'.crash_new (w6.alloc (.cells #[.int .i64 1, .int .i64 k, .int .i64 0] 3)) w6.heap.size 3 [1, (k : Int), 0] ((Below.refl _ w6).alloc (Nat.le_refl _) _) (Arr.new w6 3 _) (Nat.le_refl _) rfl (by decide) (by show (1 : Nat) ≤ 1000000; omega) (one_fs (P := fun x => x.b.length ≤ 1000000000) (by show (zeros m ++ zeros n).length ≤ _; omega))
      obtain ⟨s', hs', he⟩ := one_crash_yes (q := 1048576) (b := zeros m ++ zeros n) (s := (zeros m).length) (fu := -1) (fa := -1) (k := 4) (keep := [1, (k : Int), 0]) (off := false) rfl (by rw [hlen, zeros_len]; omega)
      rw [he] at c1
      clear h6' he
      go_wp2_with fail
      refine c1.mono ?_
      clear c1
      rintro e w7 ⟨rfl, h7⟩
      obtain ⟨B, hB⟩ : ∃ B, B = (if (zeros m).length < (zeros m ++ zeros n).length then keptL ⟨zeros m ++ zeros n, (zeros m).length⟩ (pick [1, (k : Int), 0] 1) (odd (pick [1, (k : Int), 0] 2)) else zeros m ++ zeros n) := ⟨_, rfl⟩
      have hBl : B.length = m + min k n := by
        rw [hB]
        split
        · have hk0 : pick [1, (k : Int), 0] 1 = (k : Int) := rfl
          rw [keptL_len (by show (zeros m).length ≤ (zeros m ++ zeros n).length; rw [hlen, zeros_len]; omega), hk0]
          unfold keptN
          show (zeros m).length + (min (max 0 (k : Int)) (((zeros m ++ zeros n).length : Int) - ((zeros m).length : Int))).toNat = _
          rw [hlen, zeros_len]
          omega
        · rename_i hnl
          rw [hlen, zeros_len] at hnl
          rw [hlen]; omega
      rw [← hB] at h7
      clear hB hs' hlen
      have c1 := h7.rdA (by omega)
      rw [hBl] at c1
      clear h7 hBl
      by_cases hkn : n < k
      · obtain ⟨t, ht⟩ : ∃ t, t = min k n := ⟨_, rfl⟩
        have q1 : decide ((n : Int) < (k : Int)) = true := decide_eq_true (by omega)
        have q2 : t = n := by omega
        rw [← ht] at c1
        subst q2
        clear ht
        go_wp2_with fail
        refine c1.mono ?_
        clear c1
        rintro e w8 ⟨h8, v, rfl, hown⟩
        obtain ⟨A, c, rfl⟩ := own_slice hown
        have HB := Lib.hid h8.1
        clear hown h8
        go_wp2_with fail
        refine (num17 _ _).mono ?_
        rintro e w9 ⟨rfl, hw9⟩
        rw [hw9]
        clear hw9 w9
        go_wp2_with fail
        go_ret
        exact ⟨rfl, HB.out⟩
      · obtain ⟨t, ht⟩ : ∃ t, t = min k n := ⟨_, rfl⟩
        have q1 : decide ((n : Int) < (k : Int)) = false := decide_eq_false (by omega)
        have q2 : t = k := by omega
        rw [← ht] at c1
        subst q2
        clear ht
        go_wp2_with fail
        refine c1.mono ?_
        clear c1
        rintro e w8 ⟨h8, v, rfl, hown⟩
        obtain ⟨A, c, rfl⟩ := own_slice hown
        have HB := Lib.hid h8.1
        clear hown h8
        go_wp2_with fail
        refine (num17 _ _).mono ?_
        rintro e w9 ⟨rfl, hw9⟩
        rw [hw9]
        clear hw9 w9
        go_wp2_with fail
        go_ret
        exact ⟨rfl, HB.out⟩
  · exfalso; exact hr ⟨by omega, by omega, by omega, by omega, by omega, by omega⟩

set_option maxRecDepth 100000 in
theorem lifted (os : Os) (started : os.Started) (H : Type) (enc : TypeId × Value → H) :
    ReturnsInHanded {} Try.checked os 6 .any (Rows.diskLostSpec.pre6 enc Try.prog Try.f6 Rows.diskLostRow.domain false) (Rows.diskLostSpec.post enc Try.prog Try.f6 false true false false) := by
  refine returnsInHanded_of_change_sized (C := Try.checked) Try.own started (by kernel_rfl) Try.func6
    (ChangeSpec.witness6 (enc := enc) (C := Try.checked) false ⟨#[], #[.int .i64 0, .int .i64 0, .bool false, .int .i64 0], []⟩ 8 (by kernel_rfl) (by kernel_rfl) (by kernel_rfl) (by kernel_rfl)) ?_
  intro W base args ds gs before hval0 hW hcnd hwt0 _
  have hval : ∀ (j : Nat) t v, Try.f6.params[j]? = some t → args[j]? = some v → Value.okWide Try.prog W .any base t v := hval0
  have hW' := hW
  have hWl := hW
  obtain ⟨p, q, hA0, hV, rfl, _, _⟩ := hW
  have hA : DataW.TrodAll enc Try.prog W 0 (fun _ => true) true Try.f6.params.toList args.toList ds p := hA0
  have hlt : ∀ x ∈ p, x.block < W.heap.size := fun x hx => hWl.lt x (List.mem_append_left _ hx)
  rw [Try.params6] at hA hval
  obtain ⟨v0, vs0, d0, ds0, p0, q0, hargs, rfl, rfl, h0, r0⟩ := trodAll_cons hA
  obtain ⟨v1, vs1, d1, ds1, p1, q1, he1, rfl, rfl, h1, r1⟩ := trodAll_cons r0
  obtain ⟨v2, vs2, d2, ds2, p2, q2, he2, rfl, rfl, h2, r2⟩ := trodAll_cons r1
  obtain ⟨v3, vs3, d3, ds3, p3, q3, he3, rfl, rfl, h3, r3⟩ := trodAll_cons r2
  obtain ⟨rfl, rfl, rfl⟩ := trodAll_nil r3
  subst he3
  subst he2
  subst he1
  obtain rfl : args = #[v0, v1, v2, v3] := by cases args; simp_all
  obtain ⟨rfl, rfl⟩ := trodVars_none hV
  obtain ⟨x0, rfl⟩ := okWide_int Try.underlying3 (hval 0 3 v0 rfl rfl)
  obtain ⟨x1, rfl⟩ := okWide_int Try.underlying3 (hval 1 3 v1 rfl rfl)
  obtain ⟨x2, rfl⟩ := okWide_bool Try.underlying4 (hval 2 4 v2 rfl rfl)
  obtain ⟨x3, rfl⟩ := okWide_int Try.underlying3 (hval 3 3 v3 rfl rfl)
  refine (walk x0 x1 x2 x3 W).mono fun e W' ⟨he, hb⟩ => ?_
  subst he
  exact ⟨_, rfl, law_post Try.laidOut (by kernel_rfl) rfl rfl Try.underlying4 hW' ⟨rfl, rfl, rfl⟩ hb⟩

theorem over : Rows.diskLostRow.holds Try.pinned (OpenSpec.ofChange Rows.diskLostSpec) :=
  OpenClaim.holds_of_wide 6 Try.f6 rfl rfl rfl rfl rfl rfl rfl ⟨rfl, rfl, rfl, rfl, rfl⟩ rfl rfl rfl rfl rfl (by kernel_rfl) Try.func6 (by kernel_rfl)
    (of_decide_eq_true (by kernel_rfl)) (by unfold Func.isWrapper; first | (rw [if_pos (by decide +kernel)]; kernel_rfl) | (rw [if_neg (by decide +kernel)]; exact ⟨rfl, rfl⟩))
    (fun os started H enc _ => lifted os started H enc)

/-- THE STATEMENT. -/
theorem proved : Rows.DiskLostSaid :=
  over
end Go.Proofs.Ytedjfbkfaioihaa.diskLost
