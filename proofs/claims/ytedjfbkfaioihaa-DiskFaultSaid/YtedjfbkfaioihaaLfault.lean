/- With a fault of n the step behind n done ones fails, once, and changes nothing. Without conditions. -/
import Derived.Test.YtedjfbkfaioihaaNum
import Derived.Test.YtedjfbkfaioihaaRows
import Derived.Test.YtedjfbkfaioihaaChecked
namespace Go.Proofs.Ytedjfbkfaioihaa.diskFault
open Go.ChangeShapes Go.WideShapes Go.ChangeAt Go.RowKit Go.Deep

def xs (i : Nat) : List Nat := List.replicate i 120
theorem xs_len (i : Nat) : (xs i).length = i := by unfold xs; simp
theorem xs_succ (i : Nat) : xs i ++ [120] = xs (i + 1) := by unfold xs; rw [List.replicate_succ']
/-- A name that is longer than one byte is not there. -/
theorem syn6 {q : Int} {b : List Nat} {s : Nat} {S : List En} {X : List Ac} {fa k : Int} (n : ByteArray) (hn : 4 ≤ n.size) : nx (one q b s S X false (-1) fa k) 2 n noname [] = one q b s S X false (-1) fa k ∧ ans (one q b s S X false (-1) fa k) 2 n noname [] = 6 := by
  have hne : (nA.data.toList == n.data.toList) = false := by
    rw [beq_eq_false_iff_ne]
    intro e
    have h1 := congrArg List.length e
    have h2 : n.data.toList.length = n.size := Array.length_toList
    rw [h2] at h1
    have h3 : nA.data.toList.length = 1 := rfl
    omega
  have hh : hasp n.data.toList (one q b s S X false (-1) fa k).dir = false := by
    unfold hasp
    show ([(⟨nA, 0⟩ : En)].any fun p => p.nm == n.data.toList) = false
    rw [List.any_cons, List.any_nil, Bool.or_false]
    exact hne
  have e0 : ownE (one q b s S X false (-1) fa k) 2 n noname [] = 6 := by
    show (if hasp n.data.toList (one q b s S X false (-1) fa k).dir = false then (6 : Int) else 0) = 6
    rw [if_pos hh]
  unfold nx ans
  rw [e0]
  exact ⟨rfl, rfl⟩
theorem fail {q : Int} {b : List Nat} {s : Nat} {S : List En} {X : List Ac} {k : Int} {c : List Nat} (h : b.length + c.length ≤ 16777216) (hq : ((b.length + c.length : Nat) : Int) ≤ q) : nx (one q b s S X false (-1) 0 k) 1 nA noname c = one q b s S X false (-1) (-1) k ∧ ans (one q b s S X false (-1) 0 k) 1 nA noname c = 10 := by
  unfold nx ans stepS stepE
  have e0 := one_own (s := s) (S := S) (X := X) (off := false) (fu := -1) (fa := 0) (k := k) h hq
  have e1 : ¬ (one q b s S X false (-1) 0 k).off = true := by show ¬ false = true; decide
  have e2 : ¬ (one q b s S X false (-1) 0 k).fuse = 0 := by show ¬ (-1 : Int) = 0; decide
  have e3 : (one q b s S X false (-1) 0 k).fault = 0 := rfl
  have e4 : ¬ (0 : Int) ≠ 0 := by decide
  rw [e0]
  refine ⟨?_, ?_⟩
  · rw [if_neg e1, if_neg e2, if_neg e4, if_pos e3]
    rfl
  · rw [if_neg e1, if_neg e2, if_neg e4, if_pos e3]
section
variable {w0 w : World} {D : Nat} {q : Int} {b : List Nat} {s : Nat} {S : List En} {X : List Ac} {fu fa k : Int} {off : Bool}
theorem failA (h : At w0 w D (one q b s S X false (-1) 0 k)) (A : Option Addr) (c : Nat) (l : List Nat) (n : Nat) (hn : l.length = n) (hr : Rd w w.heap.size A n (l.map bv)) (hlt : ∀ y ∈ l, y < 256) (hb : b.length + n ≤ 16777216) (hq : ((b.length + n : Nat) : Int) ≤ q) (hk : k ≤ 1000000000) :
    Calls Try.prog 18 #[.pointer (some ⟨D, 0, none⟩), .string ⟨#[97]⟩, .slice A n c] w fun e w' => e = .returned (.int .i64 10) ∧ At w0 w' D (one q b s S X false (-1) (-1) k) := by
  subst hn
  obtain ⟨e1, e2⟩ := fail (s := s) (S := S) (X := X) (k := k) hb hq
  have c1 := h.append nA A c l hr hlt (by omega) (by decide) hk (by rw [one_used]; omega) (one_fs (P := fun x => x.b.length + l.length ≤ 1000000000) (by show b.length + l.length ≤ _; omega))
  unfold SPost at c1
  rw [e1, e2] at c1
  exact c1
theorem synN (h : At w0 w D (one q b s S X false (-1) fa k)) (hb : b.length ≤ 16777216) (n : ByteArray) (hn : 4 ≤ n.size) (hn' : n.size ≤ 100) (hk : k ≤ 1000000000) :
    Calls Try.prog 15 #[.pointer (some ⟨D, 0, none⟩), .string n] w fun e w' => e = .returned (.int .i64 6) ∧ At w0 w' D (one q b s S X false (-1) fa k) := by
  obtain ⟨e1, e2⟩ := syn6 (q := q) (b := b) (s := s) (S := S) (X := X) (fa := fa) (k := k) n hn
  have c1 := h.sync n (by omega) hk (one_fs (P := fun x => x.b.length ≤ 1000000000) (by show b.length ≤ _; omega))
  unfold SPost at c1
  rw [e1, e2] at c1
  exact c1
end

set_option maxRecDepth 100000 in
set_option maxHeartbeats 4000000 in
theorem walk (a b : Int) (w : World) : Calls Try.prog 3 #[.int .i64 a, .int .i64 b] w fun e w' => e = .returned (.bool true) ∧ Below w.heap.size w w' := by
  have hal := alive11 w
  by_cases o0 : a < 0
  · have p0 : decide (a < 0) = true := decide_eq_true o0
    go_enter Try.func3, Try.ntmps3
    go_wp2_with fail
    refine hal.mono ?_
    rintro e w1 ⟨rfl, hb1⟩
    go_wp2_with fail
    go_ret
    exact ⟨rfl, hb1⟩
  have p0 : decide (a < 0) = false := decide_eq_false o0
  by_cases o1 : 100 < a
  · have p1 : decide (100 < a) = true := decide_eq_true o1
    go_enter Try.func3, Try.ntmps3
    go_wp2_with fail
    refine hal.mono ?_
    rintro e w1 ⟨rfl, hb1⟩
    go_wp2_with fail
    go_ret
    exact ⟨rfl, hb1⟩
  have p1 : decide (100 < a) = false := decide_eq_false o1
  by_cases o2 : b < 0
  · have p2 : decide (b < 0) = true := decide_eq_true o2
    go_enter Try.func3, Try.ntmps3
    go_wp2_with fail
    refine hal.mono ?_
    rintro e w1 ⟨rfl, hb1⟩
    go_wp2_with fail
    go_ret
    exact ⟨rfl, hb1⟩
  have p2 : decide (b < 0) = false := decide_eq_false o2
  by_cases o3 : 20 < b
  · have p3 : decide (20 < b) = true := decide_eq_true o3
    go_enter Try.func3, Try.ntmps3
    go_wp2_with fail
    refine hal.mono ?_
    rintro e w1 ⟨rfl, hb1⟩
    go_wp2_with fail
    go_ret
    exact ⟨rfl, hb1⟩
  have p3 : decide (20 < b) = false := decide_eq_false o3
  obtain ⟨n, rfl⟩ : ∃ n : Nat, a = n := ⟨a.toNat, by omega⟩
  obtain ⟨m, rfl⟩ : ∃ m : Nat, b = m := ⟨b.toNat, by omega⟩
  have hn : n ≤ 100 := by omega
  have hm : m ≤ 20 := by omega
  have kc := Try.lit
  clear o0 o1 o2 o3
  go_enter Try.func3, Try.ntmps3
  go_wp2_with fail
  refine hal.mono ?_
  clear hal
  rintro e w1 ⟨rfl, hb1⟩
  go_wp2_with fail
  refine (At.new 1048576 hb1).mono ?_
  clear hb1
  rintro e w2 ⟨D, rfl, h2⟩
  have c1 := h2.mkA (by decide)
  go_wp2_with fail
  refine c1.mono ?_
  clear c1 h2
  rintro e w3 ⟨rfl, h3⟩
  have c1 := h3.fault (n : Int) (by omega)
  have e1 : ({ one 1048576 [] 0 [] acA false (-1) (-1) 1 with fault := max (-1) (n : Int) } : Ds) = one 1048576 (xs 0) 0 [] acA false (-1) (n : Int) 1 := by rw [show max (-1) (n : Int) = (n : Int) by omega]; rfl
  rw [e1] at c1
  clear h3 e1
  go_wp2_with fail
  refine c1.mono ?_
  clear c1
  rintro e w4 ⟨rfl, h4⟩
  have H4 := Lib.hid h4
  clear h4
  go_wp2_with fail
  go_loopw [7] (fun i wr => ∃ j : Nat, j ≤ m ∧ i = .int .i64 j ∧ Hid (At w wr D (one 1048576 (xs 0) 0 [] acA false (-1) (n : Int) 1))) (fun i _ => m - (intOf i).toNat)
  case atStart => exact ⟨0, by omega, rfl, H4⟩
  case round =>
    obtain ⟨j, hj, rfl, HR⟩ := hrel
    clear H4
    by_cases hlt : j < m
    · have cn := number16 j (by omega) wr
      have l1 : decide ((j : Int) < (m : Int)) = true := decide_eq_true (by omega)
      go_wp2_with fail
      refine cn.mono ?_
      clear cn
      rintro e w5 ⟨⟨s, rfl, hs⟩, hb5⟩
      have hb := HR.out.below hb5
      have c1 := synN hb (by rw [xs_len]; omega) ((⟨#[110, 111, 110, 101]⟩ : ByteArray) ++ s) (by rw [ByteArray.size_append]; show 4 ≤ 4 + s.size; omega) (by rw [ByteArray.size_append]; show 4 + s.size ≤ 100; omega) (by decide)
      have hc : ¬ 9223372036854775807 < 4 + s.size := by omega
      clear hb hb5 HR
      go_wp2_with fail
      refine c1.mono ?_
      clear c1
      rintro e w6 ⟨rfl, h6⟩
      have H6 := Lib.hid h6
      clear h6
      go_wp2_with fail
      refine (num17 _ _).mono ?_
      rintro e w9 ⟨rfl, hw9⟩
      rw [hw9]
      clear hw9 w9
      go_wp2_with fail
      go_roundw
      case rel => exact ⟨j + 1, by omega, by go_num, H6⟩
      case measure => simp [intOf]; omega
    · obtain rfl : j = m := by omega
      go_wp2_with fail
      go_loopw [9] (fun i wr => ∃ k : Nat, k ≤ n ∧ i = .int .i64 k ∧ Hid (At w wr D (one 1048576 (xs k) 0 [] acA false (-1) ((n : Int) - k) (1 + k)))) (fun i _ => n - (intOf i).toNat)
      case atStart =>
        refine ⟨0, by omega, rfl, Lib.hid ?_⟩
        have := HR.out
        rw [show ((n : Int) - ((0 : Nat) : Int)) = (n : Int) by omega]
        exact this
      case round =>
        obtain ⟨k, hk, rfl, HS⟩ := hrel
        clear HR
        by_cases hlt2 : k < n
        · have hb := HS.out.below ((Below.refl _ wr).alloc (Nat.le_refl _) (.cells ([120].map bv).toArray 5 (1, 2)))
          have c1 := hb.appA _ 1 [120] 1 rfl (lit_rd wr [120] (1, 2)) (by decide) (by rw [xs_len]; omega) (by rw [xs_len]; omega) (by decide) (by omega) (by omega)
          rw [xs_succ, show less ((n : Int) - k) = (n : Int) - ((k + 1 : Nat) : Int) by unfold less; rw [if_pos (by omega)]; omega, show (1 + (k : Int) + 1) = 1 + ((k + 1 : Nat) : Int) by omega] at c1
          have l1 : decide ((k : Int) < (n : Int)) = true := decide_eq_true (by omega)
          clear hb
          go_wp2_with fail
          refine c1.mono ?_
          clear c1
          rintro e w5 ⟨rfl, h5⟩
          have H5 := Lib.hid h5
          clear h5
          go_wp2_with fail
          refine (num17 _ _).mono ?_
          rintro e w9 ⟨rfl, hw9⟩
          rw [hw9]
          clear hw9 w9
          go_wp2_with fail
          go_roundw
          case rel => exact ⟨k + 1, by omega, by go_num, H5⟩
          case measure => simp [intOf]; omega
        · obtain rfl : k = n := by omega
          have hb := HS.out.below ((Below.refl _ wr).alloc (Nat.le_refl _) (.cells ([121].map bv).toArray 5 (1, 2)))
          rw [Int.sub_self] at hb
          have c1 := failA hb _ 1 [121] 1 rfl (lit_rd wr [121] (1, 2)) (by decide) (by rw [xs_len]; omega) (by rw [xs_len]; omega) (by omega)
          clear hb HS
          go_wp2_with fail
          refine c1.mono ?_
          clear c1
          rintro e w5 ⟨rfl, h5⟩
          have hb := h5.below ((Below.refl _ w5).alloc (Nat.le_refl _) (.cells ([122].map bv).toArray 5 (1, 2)))
          have c1 := hb.appA _ 1 [122] 1 rfl (lit_rd w5 [122] (1, 2)) (by decide) (by rw [xs_len]; omega) (by rw [xs_len]; omega) (by decide) (by decide) (by omega)
          clear hb h5
          go_wp2_with fail
          refine c1.mono ?_
          clear c1
          rintro e w6 ⟨rfl, h6⟩
          have c1 := h6.rdA (by rw [List.length_append, xs_len]; show k + 1 ≤ _; omega)
          rw [List.length_append, xs_len, show k + [122].length = k + 1 from rfl] at c1
          clear h6
          go_wp2_with fail
          refine c1.mono ?_
          clear c1
          rintro e w7 ⟨h7, v, rfl, hown⟩
          obtain ⟨g, cap, cur, rfl, hg, har, hle, hcm, _⟩ := own_form hown (by omega)
          have hcell : w7.cell? ⟨g, k, none⟩ = some (.int .u8 122) := own_cell hown (by rw [List.getElem?_map, List.getElem?_append_right (by rw [xs_len]; exact Nat.le_refl _), xs_len, Nat.sub_self]; rfl)
          have HB := Lib.hid h7.1
          clear hown h7 har hg
          go_wp2_with fail
          refine (num17 _ _).mono ?_
          rintro e w9 ⟨rfl, hw9⟩
          rw [hw9]
          clear hw9 w9
          go_wp2_with fail
          refine (num17 _ _).mono ?_
          rintro e w9 ⟨rfl, hw9⟩
          rw [hw9]
          clear hw9 w9
          go_wp2_with fail
          refine (num17 _ _).mono ?_
          rintro e w9 ⟨rfl, hw9⟩
          rw [hw9]
          clear hw9 w9
          go_wp2_with fail
          go_ret
          exact ⟨rfl, HB.out⟩

set_option maxRecDepth 100000 in
theorem lifted (os : Os) (started : os.Started) (H : Type) (enc : TypeId × Value → H) :
    ReturnsInHanded {} Try.checked os 3 .any (Rows.diskFaultSpec.pre6 enc Try.prog Try.f3 Rows.diskFaultRow.domain false) (Rows.diskFaultSpec.post enc Try.prog Try.f3 false true false false) := by
  refine returnsInHanded_of_change_sized (C := Try.checked) Try.own started (by kernel_rfl) Try.func3
    (ChangeSpec.witness6 (enc := enc) (C := Try.checked) false ⟨#[], #[.int .i64 0, .int .i64 0], []⟩ 8 (by kernel_rfl) (by kernel_rfl) (by kernel_rfl) (by kernel_rfl)) ?_
  intro W base args ds gs before hval0 hW hcnd hwt0 _
  have hval : ∀ (j : Nat) t v, Try.f3.params[j]? = some t → args[j]? = some v → Value.okWide Try.prog W .any base t v := hval0
  have hW' := hW
  have hWl := hW
  obtain ⟨p, q, hA0, hV, rfl, _, _⟩ := hW
  have hA : DataW.TrodAll enc Try.prog W 0 (fun _ => true) true Try.f3.params.toList args.toList ds p := hA0
  have hlt : ∀ x ∈ p, x.block < W.heap.size := fun x hx => hWl.lt x (List.mem_append_left _ hx)
  rw [Try.params3] at hA hval
  obtain ⟨v0, vs0, d0, ds0, p0, q0, hargs, rfl, rfl, h0, r0⟩ := trodAll_cons hA
  obtain ⟨v1, vs1, d1, ds1, p1, q1, he1, rfl, rfl, h1, r1⟩ := trodAll_cons r0
  obtain ⟨rfl, rfl, rfl⟩ := trodAll_nil r1
  subst he1
  obtain rfl : args = #[v0, v1] := by cases args; simp_all
  obtain ⟨rfl, rfl⟩ := trodVars_none hV
  obtain ⟨x0, rfl⟩ := okWide_int Try.underlying3 (hval 0 3 v0 rfl rfl)
  obtain ⟨x1, rfl⟩ := okWide_int Try.underlying3 (hval 1 3 v1 rfl rfl)
  refine (walk x0 x1 W).mono fun e W' ⟨he, hb⟩ => ?_
  subst he
  exact ⟨_, rfl, law_post Try.laidOut (by kernel_rfl) rfl rfl Try.underlying4 hW' ⟨rfl, rfl, rfl⟩ hb⟩

theorem over : Rows.diskFaultRow.holds Try.pinned (OpenSpec.ofChange Rows.diskFaultSpec) :=
  OpenClaim.holds_of_wide 3 Try.f3 rfl rfl rfl rfl rfl rfl rfl ⟨rfl, rfl, rfl, rfl, rfl⟩ rfl rfl rfl rfl rfl (by kernel_rfl) Try.func3 (by kernel_rfl)
    (of_decide_eq_true (by kernel_rfl)) (by unfold Func.isWrapper; first | (rw [if_pos (by decide +kernel)]; kernel_rfl) | (rw [if_neg (by decide +kernel)]; exact ⟨rfl, rfl⟩))
    (fun os started H enc _ => lifted os started H enc)

/-- THE STATEMENT. -/
theorem proved : Rows.DiskFaultSaid :=
  over
end Go.Proofs.Ytedjfbkfaioihaa.diskFault
