/- With a fuse of n just n more steps are done. Without conditions. -/
import Derived.Test.YtedjfbkfaioihaaOne
import Derived.Test.YtedjfbkfaioihaaRows
import Derived.Test.YtedjfbkfaioihaaChecked
namespace Go.Proofs.Ytedjfbkfaioihaa.diskFuse
open Go.ChangeShapes Go.WideShapes Go.ChangeAt Go.RowKit Go.Deep

def xs (i : Nat) : List Nat := List.replicate i 120
theorem xs_len (i : Nat) : (xs i).length = i := by unfold xs; simp
theorem xs_succ (i : Nat) : xs i ++ [120] = xs (i + 1) := by unfold xs; rw [List.replicate_succ']
theorem stop {q : Int} {b : List Nat} {s : Nat} {S : List En} {X : List Ac} {off : Bool} {fa k : Int} (c : List Nat) : nx (one q b s S X off 0 fa k) 1 nA noname c = one q b s S X true 0 fa k ∧ ans (one q b s S X off 0 fa k) 1 nA noname c = 12 := by
  unfold nx ans stepS stepE
  cases off
  · have e1 : ¬ (one q b s S X false 0 fa k).off = true := by show ¬ false = true; decide
    have e2 : (one q b s S X false 0 fa k).fuse = 0 := rfl
    rw [if_neg e1, if_neg e1, if_pos e2, if_pos e2]
    exact ⟨rfl, rfl⟩
  · have e1 : (one q b s S X true 0 fa k).off = true := rfl
    rw [if_pos e1, if_pos e1]
    exact ⟨rfl, rfl⟩
section
variable {w0 w : World} {D : Nat} {q : Int} {b : List Nat} {s : Nat} {S : List En} {X : List Ac} {fu fa k : Int} {off : Bool}
theorem stopA (h : At w0 w D (one q b s S X off 0 fa k)) (A : Option Addr) (c : Nat) (l : List Nat) (n : Nat) (hn : l.length = n) (hr : Rd w w.heap.size A n (l.map bv)) (hlt : ∀ y ∈ l, y < 256) (hb : b.length + n ≤ 16777216) (hk : k ≤ 1000000000) :
    Calls Try.prog 18 #[.pointer (some ⟨D, 0, none⟩), .string ⟨#[97]⟩, .slice A n c] w fun e w' => e = .returned (.int .i64 12) ∧ At w0 w' D (one q b s S X true 0 fa k) := by
  subst hn
  obtain ⟨e1, e2⟩ := stop (q := q) (b := b) (s := s) (S := S) (X := X) (off := off) (fa := fa) (k := k) l
  have c1 := h.append nA A c l hr hlt (by omega) (by decide) hk (by rw [one_used]; omega) (one_fs (P := fun x => x.b.length + l.length ≤ 1000000000) (by show b.length + l.length ≤ _; omega))
  unfold SPost at c1
  rw [e1, e2] at c1
  exact c1
theorem rdOff (h : At w0 w D (one q b s S X true fu fa k)) (hb : b.length ≤ 16777216) :
    Calls Try.prog 19 #[.pointer (some ⟨D, 0, none⟩), .string ⟨#[97]⟩] w fun e w' => At w0 w' D (one q b s S X true fu fa k) ∧ ∃ A c, e = .returned (.tuple #[.slice A 0 c, .int .i64 12]) := by
  have c1 := h.read nA (by decide) (one_fs (P := fun x => x.b.length ≤ 1000000000) (by show b.length ≤ _; omega))
  refine c1.mono ?_
  rintro e w' ⟨h1, v, he, hown, _⟩
  have e1 : readB (one q b s S X true fu fa k) nA = [] := rfl
  rw [e1] at hown
  obtain ⟨A, c, rfl⟩ := own_slice hown
  exact ⟨h1, A, c, he⟩
theorem listOff (h : At w0 w D (one q b s S X true fu fa k)) : Calls Try.prog 24 #[.pointer (some ⟨D, 0, none⟩)] w fun e w' => (∃ A c, e = .returned (.slice A 0 c)) ∧ At w0 w' D (one q b s S X true fu fa k) := by
  refine (h.list (by show (1 : Nat) ≤ 1000000; omega)).mono ?_
  rintro e w' ⟨v, rfl, hown, h1⟩
  obtain ⟨A, c, rfl⟩ := own_slice hown
  exact ⟨⟨A, c, rfl⟩, h1⟩
end

set_option maxRecDepth 100000 in
set_option maxHeartbeats 4000000 in
theorem walk (a b : Int) (w : World) : Calls Try.prog 7 #[.int .i64 a, .int .i64 b] w fun e w' => e = .returned (.bool true) ∧ Below w.heap.size w w' := by
  have hal := alive11 w
  by_cases o0 : a < 0
  · have p0 : decide (a < 0) = true := decide_eq_true o0
    go_enter Try.func7, Try.ntmps7
    go_wp2_with fail
    refine hal.mono ?_
    rintro e w1 ⟨rfl, hb1⟩
    go_wp2_with fail
    go_ret
    exact ⟨rfl, hb1⟩
  have p0 : decide (a < 0) = false := decide_eq_false o0
  by_cases o1 : 100 < a
  · have p1 : decide (100 < a) = true := decide_eq_true o1
    go_enter Try.func7, Try.ntmps7
    go_wp2_with fail
    refine hal.mono ?_
    rintro e w1 ⟨rfl, hb1⟩
    go_wp2_with fail
    go_ret
    exact ⟨rfl, hb1⟩
  have p1 : decide (100 < a) = false := decide_eq_false o1
  by_cases o2 : b < 1
  · have p2 : decide (b < 1) = true := decide_eq_true o2
    go_enter Try.func7, Try.ntmps7
    go_wp2_with fail
    refine hal.mono ?_
    rintro e w1 ⟨rfl, hb1⟩
    go_wp2_with fail
    go_ret
    exact ⟨rfl, hb1⟩
  have p2 : decide (b < 1) = false := decide_eq_false o2
  by_cases o3 : 20 < b
  · have p3 : decide (20 < b) = true := decide_eq_true o3
    go_enter Try.func7, Try.ntmps7
    go_wp2_with fail
    refine hal.mono ?_
    rintro e w1 ⟨rfl, hb1⟩
    go_wp2_with fail
    go_ret
    exact ⟨rfl, hb1⟩
  have p3 : decide (20 < b) = false := decide_eq_false o3
  obtain ⟨n, rfl⟩ : ∃ n : Nat, a = n := ⟨a.toNat, by omega⟩
  obtain ⟨m, rfl⟩ : ∃ m : Nat, b = m := ⟨b.toNat, by omega⟩
  have hn : n ≤ 100 := by omega
  have hm : m ≤ 20 := by omega
  have hm1 : 1 ≤ m := by omega
  have kc := Try.lit
  clear o0 o1 o2 o3
  go_enter Try.func7, Try.ntmps7
  go_wp2_with fail
  refine hal.mono ?_
  clear hal
  rintro e w1 ⟨rfl, hb1⟩
  go_wp2_with fail
  refine (At.new 1048576 hb1).mono ?_
  clear hb1
  rintro e w2 ⟨D, rfl, h2⟩
  have c1 := h2.mkA (by decide)
  go_wp2_with fail
  refine c1.mono ?_
  clear c1 h2
  rintro e w3 ⟨rfl, h3⟩
  have c1 := h3.fuse (n : Int) (by omega)
  have e1 : ({ one 1048576 [] 0 [] acA false (-1) (-1) 1 with fuse := max (-1) (n : Int) } : Ds) = one 1048576 (xs 0) 0 [] acA false (n : Int) (-1) 1 := by rw [show max (-1) (n : Int) = (n : Int) by omega]; rfl
  rw [e1] at c1
  clear h3 e1
  go_wp2_with fail
  refine c1.mono ?_
  clear c1
  rintro e w4 ⟨rfl, h4⟩
  have H4 := Lib.hid h4
  clear h4
  go_wp2_with fail
  go_loopw [7] (fun i wr => ∃ k : Nat, k ≤ n ∧ i = .int .i64 k ∧ Hid (At w wr D (one 1048576 (xs k) 0 [] acA false ((n : Int) - k) (-1) (1 + k)))) (fun i _ => n - (intOf i).toNat)
  case atStart =>
    refine ⟨0, by omega, rfl, Lib.hid ?_⟩
    have := H4.out
    rw [show ((n : Int) - ((0 : Nat) : Int)) = (n : Int) by omega]
    exact this
  case round =>
    obtain ⟨k, hk, rfl, HR⟩ := hrel
    clear H4
    by_cases hlt : k < n
    · have hb := HR.out.below ((Below.refl _ wr).alloc (Nat.le_refl _) (.cells ([120].map bv).toArray 5 (1, 2)))
      have c1 := hb.appA _ 1 [120] 1 rfl (lit_rd wr [120] (1, 2)) (by decide) (by rw [xs_len]; omega) (by rw [xs_len]; omega) (by omega) (by decide) (by omega)
      rw [xs_succ, show less ((n : Int) - k) = (n : Int) - ((k + 1 : Nat) : Int) by unfold less; rw [if_pos (by omega)]; omega, show (1 + (k : Int) + 1) = 1 + ((k + 1 : Nat) : Int) by omega] at c1
      have l1 : decide ((k : Int) < (n : Int)) = true := decide_eq_true (by omega)
      clear hb
      go_wp2_with fail
      refine c1.mono ?_
      clear c1
      rintro e w5 ⟨rfl, h5⟩
      have hon : Calls Try.prog 26 #[.pointer (some ⟨D, 0, none⟩)] w5 (fun e w' => e = .returned (.bool true) ∧ w' = w5) := h5.on
      have H5 := Lib.hid h5
      clear h5
      go_wp2_with fail
      refine (num17 _ _).mono ?_
      rintro e w9 ⟨rfl, hw9⟩
      rw [hw9]
      clear hw9 w9
      go_wp2_with fail
      refine hon.mono ?_
      rintro e w9 ⟨rfl, hw9⟩
      rw [hw9]
      clear hw9 w9 hon
      go_wp2_with fail
      go_roundw
      case rel => exact ⟨k + 1, by omega, by go_num, H5⟩
      case measure => simp [intOf]; omega
    · obtain rfl : k = n := by omega
      have H6 : Hid (At w wr D (one 1048576 (xs k) 0 [] acA false 0 (-1) (1 + k))) := by
        refine Lib.hid ?_
        have := HR.out
        rwa [Int.sub_self] at this
      clear HR
      go_wp2_with fail
      go_loopw [9] (fun i wr => ∃ (j : Nat) (off : Bool), j ≤ m ∧ i = .int .i64 j ∧ Hid (At w wr D (one 1048576 (xs k) 0 [] acA off 0 (-1) (1 + k)))) (fun i _ => m - (intOf i).toNat)
      case atStart => exact ⟨0, false, by omega, rfl, H6⟩
      case round =>
        obtain ⟨j, off, hj, rfl, HR⟩ := hrel
        clear H6
        by_cases hlt2 : j < m
        · have hb := HR.out.below ((Below.refl _ wr).alloc (Nat.le_refl _) (.cells ([120].map bv).toArray 5 (1, 2)))
          have c1 := stopA hb _ 1 [120] 1 rfl (lit_rd wr [120] (1, 2)) (by decide) (by rw [xs_len]; omega) (by omega)
          have l1 : decide ((j : Int) < (m : Int)) = true := decide_eq_true (by omega)
          clear hb
          go_wp2_with fail
          refine c1.mono ?_
          clear c1
          rintro e w5 ⟨rfl, h5⟩
          have c1 := rdOff h5 (by rw [xs_len]; omega)
          clear h5
          go_wp2_with fail
          refine c1.mono ?_
          clear c1
          rintro e w6 ⟨h6, A1, c1, rfl⟩
          have hon : Calls Try.prog 26 #[.pointer (some ⟨D, 0, none⟩)] w6 (fun e w' => e = .returned (.bool false) ∧ w' = w6) := h6.on
          have hls := listOff h6
          clear h6
          go_wp2_with fail
          refine (num17 _ _).mono ?_
          rintro e w9 ⟨rfl, hw9⟩
          rw [hw9]
          clear hw9 w9
          go_wp2_with fail
          refine (num17 _ _).mono ?_
          rintro e w9 ⟨rfl, hw9⟩
          rw [hw9]
          clear hw9 w9
          go_wp2_with fail
          refine hon.mono ?_
          rintro e w9 ⟨rfl, hw9⟩
          rw [hw9]
          clear hw9 w9 hon
          go_wp2_with fail
          refine hls.mono ?_
          clear hls
          rintro e w7 ⟨⟨A2, c2, rfl⟩, h7⟩
          have H7 := Lib.hid h7
          clear h7
          go_wp2_with fail
          go_roundw
          case rel => exact ⟨j + 1, true, by omega, by go_num, H7⟩
          case measure => simp [intOf]; omega
        · obtain rfl : j = m := by omega
          have c1 := HR.out.crash_new (wr.alloc (.cells #[.int .i64 1, .int .i64 k, .int .i64 0] 3)) wr.heap.size 3 [1, (k : Int), 0] ((Below.refl _ wr).alloc (Nat.le_refl _) _) (Arr.new wr 3 _) (Nat.le_refl _) rfl (by decide) (by show (1 : Nat) ≤ 1000000; omega) (one_fs (P := fun x => x.b.length ≤ 1000000000) (by show (xs k).length ≤ _; rw [xs_len]; omega))
          obtain ⟨s', hs', he⟩ := one_crash_yes (q := 1048576) (b := xs k) (s := 0) (fu := 0) (fa := -1) (k := 1 + k) (keep := [1, (k : Int), 0]) (off := off) rfl (Nat.zero_le _)
          rw [he] at c1
          clear HR he hs'
          obtain ⟨B, hB⟩ : ∃ B, B = (if 0 < (xs k).length then keptL ⟨xs k, 0⟩ (pick [1, (k : Int), 0] 1) (odd (pick [1, (k : Int), 0] 2)) else xs k) := ⟨_, rfl⟩
          have hBl : B.length = k := by
            rw [hB]
            split
            · have hk0 : pick [1, (k : Int), 0] 1 = (k : Int) := rfl
              rw [keptL_len (Nat.zero_le _), hk0]
              unfold keptN
              show 0 + (min (max 0 (k : Int)) (((xs k).length : Int) - ((0 : Nat) : Int))).toNat = _
              rw [xs_len]
              omega
            · exact xs_len k
          rw [← hB] at c1
          have HBL := Lib.hid hBl
          clear hB hBl
          go_wp2_with fail
          refine c1.mono ?_
          clear c1
          rintro e w7 ⟨rfl, h7⟩
          have c1 := h7.rdA (by have := HBL.out; omega)
          rw [HBL.out] at c1
          clear h7
          go_wp2_with fail
          refine c1.mono ?_
          clear c1
          rintro e w8 ⟨h8, v, rfl, hown⟩
          obtain ⟨A, c, rfl⟩ := own_slice hown
          have hon : Calls Try.prog 26 #[.pointer (some ⟨D, 0, none⟩)] w8 (fun e w' => e = .returned (.bool true) ∧ w' = w8) := h8.on
          have hst : Calls Try.prog 27 #[.pointer (some ⟨D, 0, none⟩)] w8 (fun e w' => e = .returned (.int .i64 (1 + k)) ∧ w' = w8) := h8.steps
          have HB := Lib.hid h8.1
          clear hown h8
          go_wp2_with fail
          refine (num17 _ _).mono ?_
          rintro e w9 ⟨rfl, hw9⟩
          rw [hw9]
          clear hw9 w9
          go_wp2_with fail
          refine hon.mono ?_
          rintro e w9 ⟨rfl, hw9⟩
          rw [hw9]
          clear hw9 w9 hon
          go_wp2_with fail
          refine hst.mono ?_
          rintro e w9 ⟨rfl, hw9⟩
          rw [hw9]
          clear hw9 w9 hst
          have w1k : (1 + (k : Int) == (k : Int) + 1) = true := by rw [beq_iff_eq]; omega
          go_wp2_with fail
          go_ret
          exact ⟨rfl, HB.out⟩

set_option maxRecDepth 100000 in
theorem lifted (os : Os) (started : os.Started) (H : Type) (enc : TypeId × Value → H) :
    ReturnsInHanded {} Try.checked os 7 .any (Rows.diskFuseSpec.pre6 enc Try.prog Try.f7 Rows.diskFuseRow.domain false) (Rows.diskFuseSpec.post enc Try.prog Try.f7 false true false false) := by
  refine returnsInHanded_of_change_sized (C := Try.checked) Try.own started (by kernel_rfl) Try.func7
    (ChangeSpec.witness6 (enc := enc) (C := Try.checked) false ⟨#[], #[.int .i64 0, .int .i64 0], []⟩ 8 (by kernel_rfl) (by kernel_rfl) (by kernel_rfl) (by kernel_rfl)) ?_
  intro W base args ds gs before hval0 hW hcnd hwt0 _
  have hval : ∀ (j : Nat) t v, Try.f7.params[j]? = some t → args[j]? = some v → Value.okWide Try.prog W .any base t v := hval0
  have hW' := hW
  have hWl := hW
  obtain ⟨p, q, hA0, hV, rfl, _, _⟩ := hW
  have hA : DataW.TrodAll enc Try.prog W 0 (fun _ => true) true Try.f7.params.toList args.toList ds p := hA0
  have hlt : ∀ x ∈ p, x.block < W.heap.size := fun x hx => hWl.lt x (List.mem_append_left _ hx)
  rw [Try.params7] at hA hval
  obtain ⟨v0, vs0, d0, ds0, p0, q0, hargs, rfl, rfl, h0, r0⟩ := trodAll_cons hA
  obtain ⟨v1, vs1, d1, ds1, p1, q1, he1, rfl, rfl, h1, r1⟩ := trodAll_cons r0
  obtain ⟨rfl, rfl, rfl⟩ := trodAll_nil r1
  subst he1
  obtain rfl : args = #[v0, v1] := by cases args; simp_all
  obtain ⟨rfl, rfl⟩ := trodVars_none hV
  obtain ⟨x0, rfl⟩ := okWide_int Try.underlying3 (hval 0 3 v0 rfl rfl)
  obtain ⟨x1, rfl⟩ := okWide_int Try.underlying3 (hval 1 3 v1 rfl rfl)
  refine (walk x0 x1 W).mono fun e W' ⟨he, hb⟩ => ?_
  subst he
  exact ⟨_, rfl, law_post Try.laidOut (by kernel_rfl) rfl rfl Try.underlying4 hW' ⟨rfl, rfl, rfl⟩ hb⟩

theorem over : Rows.diskFuseRow.holds Try.pinned (OpenSpec.ofChange Rows.diskFuseSpec) :=
  OpenClaim.holds_of_wide 7 Try.f7 rfl rfl rfl rfl rfl rfl rfl ⟨rfl, rfl, rfl, rfl, rfl⟩ rfl rfl rfl rfl rfl (by kernel_rfl) Try.func7 (by kernel_rfl)
    (of_decide_eq_true (by kernel_rfl)) (by unfold Func.isWrapper; first | (rw [if_pos (by decide +kernel)]; kernel_rfl) | (rw [if_neg (by decide +kernel)]; exact ⟨rfl, rfl⟩))
    (fun os started H enc _ => lifted os started H enc)

/-- THE STATEMENT. -/
theorem proved : Rows.DiskFuseSaid :=
  over
end Go.Proofs.Ytedjfbkfaioihaa.diskFuse
