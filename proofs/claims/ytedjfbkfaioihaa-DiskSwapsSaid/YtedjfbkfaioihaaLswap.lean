/- A file that was written aside, synced and given its name is behind every crash the old one or the new one. Without conditions. -/
import Derived.Test.YtedjfbkfaioihaaSwap
import Derived.Test.YtedjfbkfaioihaaRows
import Derived.Test.YtedjfbkfaioihaaChecked
namespace Go.Proofs.Ytedjfbkfaioihaa.diskSwaps
open Go.ChangeShapes Go.WideShapes Go.ChangeAt Go.RowKit Go.Deep

set_option maxRecDepth 100000 in
set_option maxHeartbeats 4000000 in
theorem walk (w : World) (A0 : Option Addr) (n0 c0 : Nat) (m0 : List Nat) (rd0 : Rd w w.heap.size A0 n0 (m0.map bv)) (lt0 : ∀ x ∈ m0, x < 256) (A1 : Option Addr) (n1 c1 : Nat) (m1 : List Nat) (rd1 : Rd w w.heap.size A1 n1 (m1.map bv)) (lt1 : ∀ x ∈ m1, x < 256) (A2 : Option Addr) (n2 c2 : Nat) (l2 : List Int) (rd2 : Rd w w.heap.size A2 n2 (l2.map (Value.int .i64))) (nc2 : n2 ≤ c2) (cm2 : c2 ≤ maxLen) (f : Int) : Calls Try.prog 8 #[.slice A0 n0 c0, .slice A1 n1 c1, .slice A2 n2 c2, .int .i64 f] w fun e w' => e = .returned (.bool true) ∧ Below w.heap.size w w' := by
  have hal := alive11 w
  have l0 : m0.length = n0 := by have := rd0.1; simpa using this
  have l1 : m1.length = n1 := by have := rd1.1; simpa using this
  by_cases o0 : 3000 < n0
  · have p0 : decide (3000 < n0) = true := decide_eq_true o0
    have P0 : decide ((3000 : Int) < (n0 : Int)) = true := decide_eq_true (by omega)
    go_enter Try.func8, Try.ntmps8
    go_wp2_with fail
    refine hal.mono ?_
    rintro e w1 ⟨rfl, hb1⟩
    go_wp2_with fail
    go_ret
    exact ⟨rfl, hb1⟩
  have p0 : decide (3000 < n0) = false := decide_eq_false o0
  have P0 : decide ((3000 : Int) < (n0 : Int)) = false := decide_eq_false (by omega)
  by_cases o1 : 3000 < n1
  · have p1 : decide (3000 < n1) = true := decide_eq_true o1
    have P1 : decide ((3000 : Int) < (n1 : Int)) = true := decide_eq_true (by omega)
    go_enter Try.func8, Try.ntmps8
    go_wp2_with fail
    refine hal.mono ?_
    rintro e w1 ⟨rfl, hb1⟩
    go_wp2_with fail
    go_ret
    exact ⟨rfl, hb1⟩
  have p1 : decide (3000 < n1) = false := decide_eq_false o1
  have P1 : decide ((3000 : Int) < (n1 : Int)) = false := decide_eq_false (by omega)
  by_cases o2 : 100 < n2
  · have p2 : decide (100 < n2) = true := decide_eq_true o2
    have P2 : decide ((100 : Int) < (n2 : Int)) = true := decide_eq_true (by omega)
    go_enter Try.func8, Try.ntmps8
    go_wp2_with fail
    refine hal.mono ?_
    rintro e w1 ⟨rfl, hb1⟩
    go_wp2_with fail
    go_ret
    exact ⟨rfl, hb1⟩
  have p2 : decide (100 < n2) = false := decide_eq_false o2
  have P2 : decide ((100 : Int) < (n2 : Int)) = false := decide_eq_false (by omega)
  by_cases o3 : 1000 < f
  · have p3 : decide (1000 < f) = true := decide_eq_true o3
    go_enter Try.func8, Try.ntmps8
    go_wp2_with fail
    refine hal.mono ?_
    rintro e w1 ⟨rfl, hb1⟩
    go_wp2_with fail
    go_ret
    exact ⟨rfl, hb1⟩
  have p3 : decide (1000 < f) = false := decide_eq_false o3
  have HR := Lib.hid (And.intro rd0 (And.intro rd1 (And.intro rd2 (And.intro l0 (And.intro l1 (And.intro (show m0.length ≤ 3000 by omega) (show m1.length ≤ 3000 by omega)))))))
  clear rd0 rd1 rd2 l0 l1 o0 o1 o2
  go_enter Try.func8, Try.ntmps8
  go_wp2_with fail
  refine hal.mono ?_
  clear hal
  rintro e w1 ⟨rfl, hb1⟩
  go_wp2_with fail
  refine (At.new 20000 hb1).mono ?_
  clear hb1
  rintro e w2 ⟨D, rfl, h2⟩
  have hc := h2.mkA (by decide)
  clear h2
  go_wp2_with fail
  refine hc.mono ?_
  clear hc
  rintro e w3 ⟨rfl, h3⟩
  have hc := h3.appA A0 c0 m0 n0 HR.out.2.2.2.1 ((HR.out.1.below h3.1).more h3.1.size) lt0 (by have := HR.out.2.2.2; show 0 + n0 ≤ _; omega) (by have := HR.out.2.2.2; show ((0 + n0 : Nat) : Int) ≤ _; omega) (by decide) (by decide) (by decide)
  clear h3
  go_wp2_with fail
  refine hc.mono ?_
  clear hc
  rintro e w4 ⟨rfl, h4⟩
  have hc := h4.synA (by have := HR.out.2.2.2; show m0.length ≤ _; omega) (by decide) (by decide) (by decide)
  clear h4
  go_wp2_with fail
  refine hc.mono ?_
  clear hc
  rintro e w5 ⟨rfl, h5⟩
  have h5' : At w w5 D (one 20000 m0 m0.length [] acA false (-1) (-1) 3) := h5
  have hc : Calls Try.prog 22 #[.pointer (some ⟨D, 0, none⟩)] w5 (fun e w' => e = .returned (.int .i64 0) ∧ At w w' D (one 20000 m0 m0.length [⟨nA, 0⟩] [] false (-1) (-1) 4)) := h5'.syncdir (by show (3 : Int) ≤ 1000000000; omega)
  clear h5 h5'
  go_wp2_with fail
  refine hc.mono ?_
  clear hc
  rintro e w6 ⟨rfl, h6⟩
  have hc := h6.fuse f (by omega)
  clear h6
  go_wp2_with fail
  refine hc.mono ?_
  clear hc
  rintro e w7 ⟨rfl, h7⟩
  have h7' : SwP w w7 D m0 m1 0 0 false := ⟨⟨max (-1) f, 4, h7, by omega⟩, Nat.le_refl _, fun _ => rfl⟩
  clear h7
  have hc := h7'.create HR.out.2.2.2.2.2.1 HR.out.2.2.2.2.2.2
  clear h7'
  go_wp2_with fail
  refine hc.mono ?_
  clear hc
  rintro e w8 ⟨x1, i1, o1', rfl, h8, hx⟩
  clear hx
  obtain ⟨⟨fu1, k1, a1, b1⟩, le1, on1⟩ := h8
  have hrd := (HR.out.2.1.below a1.1).more a1.1.size
  have h8 : SwP w w8 D m0 m1 1 i1 o1' := ⟨⟨fu1, k1, a1, b1⟩, le1, on1⟩
  have hc := h8.append HR.out.2.2.2.2.2.1 HR.out.2.2.2.2.2.2 A1 c1 n1 HR.out.2.2.2.2.1 hrd lt1
  clear h8 hrd a1 b1 le1 on1
  go_wp2_with fail
  refine hc.mono ?_
  clear hc
  rintro e w9 ⟨x2, i2, o2', rfl, h9, hx⟩
  clear hx
  have hc := h9.sync HR.out.2.2.2.2.2.1 HR.out.2.2.2.2.2.2
  clear h9
  go_wp2_with fail
  refine hc.mono ?_
  clear hc
  rintro e w10 ⟨x3, i3, o3', rfl, h10, hx⟩
  have H10 := Lib.hid h10
  clear h10
  rcases hx with ⟨rfl, rfl⟩ | ⟨rfl, rfl, hle3⟩
  · go_wp2_with fail
    refine (num17 _ _).mono ?_
    rintro e w99 ⟨rfl, hw9⟩
    rw [hw9]
    clear hw9 w99
    go_wp2_with fail
    have hc := H10.out.rename HR.out.2.2.2.2.2.1 HR.out.2.2.2.2.2.2
    clear H10
    refine hc.mono ?_
    clear hc
    rintro e w11 ⟨x4, i4, o4', rfl, h11, hx⟩
    clear hx
    have hc := h11.syncdir HR.out.2.2.2.2.2.1 HR.out.2.2.2.2.2.2
    clear h11
    go_wp2_with fail
    refine hc.mono ?_
    clear hc
    rintro e w12 ⟨x5, i5, o5, rfl, h12, hx⟩
    have H12 := Lib.hid h12
    clear h12
    rcases hx with ⟨rfl, rfl⟩ | ⟨rfl, rfl, hle5⟩
    · go_wp2_with fail
      refine (num17 _ _).mono ?_
      rintro e w99 ⟨rfl, hw9⟩
      rw [hw9]
      clear hw9 w99
      have hi5 : 5 ≤ i5 := by have := H12.out.on rfl; omega
      obtain ⟨o5, ho5⟩ : ∃ o5, o5 = false := ⟨_, rfl⟩
      rw [← ho5] at H12
      clear ho5
      obtain ⟨⟨fu, k, h1, hk⟩, hle, hon⟩ := H12.out
      have hL := sw_lens m0 m1 i5 o5 fu k
      have hc := h1.crash A2 n2 c2 l2 (((HR.out.2.2.1.below h1.1)).ik h1.1.size) nc2 cm2 (by omega) (fun x hx => by have := sw_fs HR.out.2.2.2.2.2.1 HR.out.2.2.2.2.2.2 i5 o5 fu k x hx; omega)
      have hbd := sw_after HR.out.2.2.2.2.2.1 HR.out.2.2.2.2.2.2 h1 l2
      obtain ⟨r1, r2, r3⟩ := sw_crash m0 m1 i5 o5 fu k l2
      have r2 := r3 hi5
      clear r3
      obtain ⟨ST, hST⟩ : ∃ ST, ST = crash (sw m0 m1 i5 o5 fu k) l2 := ⟨_, rfl⟩
      rw [← hST] at hc hbd r1 r2
      clear h1 hST hL hk hle hon
      have R := Lib.hid (And.intro r1 (And.intro r2 hbd))
      clear r1 r2 hbd
      go_wp2_with fail
      refine hc.mono ?_
      clear hc
      rintro e wc ⟨rfl, h2⟩
      have hc := h2.read nA (by decide) R.out.2.2
      clear h2
      unfold nA at hc
      go_wp2_with fail
      refine hc.mono ?_
      clear hc
      rintro e wd ⟨h3, v, rfl, hown, _⟩
      have e1 : readE ST ⟨#[97]⟩ = 0 := R.out.1
      rw [e1]
      clear e1
      obtain ⟨B, hB⟩ : ∃ B, B = readB ST ⟨#[97]⟩ := ⟨_, rfl⟩
      rw [← hB] at hown
      have hBB : B = m1 := by rw [hB]; exact R.out.2.1
      clear hB R
      obtain ⟨Ab, cb, rfl, hrb, hcb, hcm⟩ := Rd.of_own hown
      have HD := Lib.hid h3.1
      have k1 : (convert 31 9 (.slice A1 n1 c1)).run Try.prog wd = .ok (.string (strN m1)) wd := conv_rd (HR.out.2.1.below HD.out)
      have k2 : (convert 31 9 (.slice Ab B.length cb)).run Try.prog wd = .ok (.string (strN B)) wd := conv_rd hrb
      clear hown hrb h3
      subst hBB
      have q1 : ((strN B).toList == (strN B).toList) = true := by simp
      go_wp2_with fail
      refine (num17 _ _).mono ?_
      rintro e w99 ⟨rfl, hw9⟩
      rw [hw9]
      clear hw9 w99
      go_wp2_with fail
      go_ret
      exact ⟨rfl, HD.out⟩
    · go_wp2_with fail
      refine (num17 _ _).mono ?_
      rintro e w99 ⟨rfl, hw9⟩
      rw [hw9]
      clear hw9 w99
      obtain ⟨o5, ho5⟩ : ∃ o5, o5 = true := ⟨_, rfl⟩
      rw [← ho5] at H12
      clear ho5
      obtain ⟨⟨fu, k, h1, hk⟩, hle, hon⟩ := H12.out
      have hL := sw_lens m0 m1 i5 o5 fu k
      have hc := h1.crash A2 n2 c2 l2 (((HR.out.2.2.1.below h1.1)).ik h1.1.size) nc2 cm2 (by omega) (fun x hx => by have := sw_fs HR.out.2.2.2.2.2.1 HR.out.2.2.2.2.2.2 i5 o5 fu k x hx; omega)
      have hbd := sw_after HR.out.2.2.2.2.2.1 HR.out.2.2.2.2.2.2 h1 l2
      obtain ⟨r1, r2, r3⟩ := sw_crash m0 m1 i5 o5 fu k l2
      clear r3
      obtain ⟨ST, hST⟩ : ∃ ST, ST = crash (sw m0 m1 i5 o5 fu k) l2 := ⟨_, rfl⟩
      rw [← hST] at hc hbd r1 r2
      clear h1 hST hL hk hle hon
      have R := Lib.hid (And.intro r1 (And.intro r2 hbd))
      clear r1 r2 hbd
      go_wp2_with fail
      refine hc.mono ?_
      clear hc
      rintro e wc ⟨rfl, h2⟩
      have hc := h2.read nA (by decide) R.out.2.2
      clear h2
      unfold nA at hc
      go_wp2_with fail
      refine hc.mono ?_
      clear hc
      rintro e wd ⟨h3, v, rfl, hown, _⟩
      have e1 : readE ST ⟨#[97]⟩ = 0 := R.out.1
      rw [e1]
      clear e1
      obtain ⟨B, hB⟩ : ∃ B, B = readB ST ⟨#[97]⟩ := ⟨_, rfl⟩
      rw [← hB] at hown
      have hBB : B = m0 ∨ B = m1 := by rw [hB]; exact R.out.2.1
      clear hB R
      obtain ⟨Ab, cb, rfl, hrb, hcb, hcm⟩ := Rd.of_own hown
      have HD := Lib.hid h3.1
      have k0 : (convert 31 9 (.slice A0 n0 c0)).run Try.prog wd = .ok (.string (strN m0)) wd := conv_rd (HR.out.1.below HD.out)
      have k1 : (convert 31 9 (.slice A1 n1 c1)).run Try.prog wd = .ok (.string (strN m1)) wd := conv_rd (HR.out.2.1.below HD.out)
      have k2 : (convert 31 9 (.slice Ab B.length cb)).run Try.prog wd = .ok (.string (strN B)) wd := conv_rd hrb
      clear hown hrb h3
      rcases hBB with rfl | rfl
      · have q1 : ((strN B).toList == (strN B).toList) = true := by simp
        go_wp2_with fail
        refine (num17 _ _).mono ?_
        rintro e w99 ⟨rfl, hw9⟩
        rw [hw9]
        clear hw9 w99
        go_wp2_with fail
        go_ret
        exact ⟨rfl, HD.out⟩
      · have q1 : ((strN B).toList == (strN B).toList) = true := by simp
        cases q0 : ((strN B).toList == (strN m0).toList)
        · go_wp2_with fail
          refine (num17 _ _).mono ?_
          rintro e w99 ⟨rfl, hw9⟩
          rw [hw9]
          clear hw9 w99
          go_wp2_with fail
          go_ret
          exact ⟨rfl, HD.out⟩
        · go_wp2_with fail
          refine (num17 _ _).mono ?_
          rintro e w99 ⟨rfl, hw9⟩
          rw [hw9]
          clear hw9 w99
          go_wp2_with fail
          go_ret
          exact ⟨rfl, HD.out⟩
  · go_wp2_with fail
    refine (num17 _ _).mono ?_
    rintro e w99 ⟨rfl, hw9⟩
    rw [hw9]
    clear hw9 w99
    obtain ⟨i5, rfl⟩ : ∃ i5, i5 = i3 := ⟨_, rfl⟩
    obtain ⟨o5, ho5⟩ : ∃ o5, o5 = true := ⟨_, rfl⟩
    rw [← ho5] at H10
    clear ho5
    obtain ⟨⟨fu, k, h1, hk⟩, hle, hon⟩ := H10.out
    have hL := sw_lens m0 m1 i5 o5 fu k
    have hc := h1.crash A2 n2 c2 l2 (((HR.out.2.2.1.below h1.1)).ik h1.1.size) nc2 cm2 (by omega) (fun x hx => by have := sw_fs HR.out.2.2.2.2.2.1 HR.out.2.2.2.2.2.2 i5 o5 fu k x hx; omega)
    have hbd := sw_after HR.out.2.2.2.2.2.1 HR.out.2.2.2.2.2.2 h1 l2
    obtain ⟨r1, r2, r3⟩ := sw_crash m0 m1 i5 o5 fu k l2
    clear r3
    obtain ⟨ST, hST⟩ : ∃ ST, ST = crash (sw m0 m1 i5 o5 fu k) l2 := ⟨_, rfl⟩
    rw [← hST] at hc hbd r1 r2
    clear h1 hST hL hk hle hon
    have R := Lib.hid (And.intro r1 (And.intro r2 hbd))
    clear r1 r2 hbd
    go_wp2_with fail
    refine hc.mono ?_
    clear hc
    rintro e wc ⟨rfl, h2⟩
    have hc := h2.read nA (by decide) R.out.2.2
    clear h2
    unfold nA at hc
    go_wp2_with fail
    refine hc.mono ?_
    clear hc
    rintro e wd ⟨h3, v, rfl, hown, _⟩
    have e1 : readE ST ⟨#[97]⟩ = 0 := R.out.1
    rw [e1]
    clear e1
    obtain ⟨B, hB⟩ : ∃ B, B = readB ST ⟨#[97]⟩ := ⟨_, rfl⟩
    rw [← hB] at hown
    have hBB : B = m0 ∨ B = m1 := by rw [hB]; exact R.out.2.1
    clear hB R
    obtain ⟨Ab, cb, rfl, hrb, hcb, hcm⟩ := Rd.of_own hown
    have HD := Lib.hid h3.1
    have k0 : (convert 31 9 (.slice A0 n0 c0)).run Try.prog wd = .ok (.string (strN m0)) wd := conv_rd (HR.out.1.below HD.out)
    have k1 : (convert 31 9 (.slice A1 n1 c1)).run Try.prog wd = .ok (.string (strN m1)) wd := conv_rd (HR.out.2.1.below HD.out)
    have k2 : (convert 31 9 (.slice Ab B.length cb)).run Try.prog wd = .ok (.string (strN B)) wd := conv_rd hrb
    clear hown hrb h3
    rcases hBB with rfl | rfl
    · have q1 : ((strN B).toList == (strN B).toList) = true := by simp
      go_wp2_with fail
      refine (num17 _ _).mono ?_
      rintro e w99 ⟨rfl, hw9⟩
      rw [hw9]
      clear hw9 w99
      go_wp2_with fail
      go_ret
      exact ⟨rfl, HD.out⟩
    · have q1 : ((strN B).toList == (strN B).toList) = true := by simp
      cases q0 : ((strN B).toList == (strN m0).toList)
      · go_wp2_with fail
        refine (num17 _ _).mono ?_
        rintro e w99 ⟨rfl, hw9⟩
        rw [hw9]
        clear hw9 w99
        go_wp2_with fail
        go_ret
        exact ⟨rfl, HD.out⟩
      · go_wp2_with fail
        refine (num17 _ _).mono ?_
        rintro e w99 ⟨rfl, hw9⟩
        rw [hw9]
        clear hw9 w99
        go_wp2_with fail
        go_ret
        exact ⟨rfl, HD.out⟩

set_option maxRecDepth 100000 in
theorem lifted (os : Os) (started : os.Started) (H : Type) (enc : TypeId × Value → H) :
    ReturnsInHanded {} Try.checked os 8 .any (Rows.diskSwapsSpec.pre6 enc Try.prog Try.f8 Rows.diskSwapsRow.domain false) (Rows.diskSwapsSpec.post enc Try.prog Try.f8 false true false false) := by
  refine returnsInHanded_of_change_sized (C := Try.checked) Try.own started (by kernel_rfl) Try.func8
    (ChangeSpec.witness6 (enc := enc) (C := Try.checked) false ⟨#[], #[.slice none 0 0, .slice none 0 0, .slice none 0 0, .int .i64 0], []⟩ 8 (by kernel_rfl) (by kernel_rfl) (by kernel_rfl) (by kernel_rfl)) ?_
  intro W base args ds gs before hval0 hW hcnd hwt0 _
  have hval : ∀ (j : Nat) t v, Try.f8.params[j]? = some t → args[j]? = some v → Value.okWide Try.prog W .any base t v := hval0
  have hW' := hW
  have hWl := hW
  obtain ⟨p, q, hA0, hV, rfl, _, _⟩ := hW
  have hA : DataW.TrodAll enc Try.prog W 0 (fun _ => true) true Try.f8.params.toList args.toList ds p := hA0
  have hlt : ∀ x ∈ p, x.block < W.heap.size := fun x hx => hWl.lt x (List.mem_append_left _ hx)
  rw [Try.params8] at hA hval
  obtain ⟨v0, vs0, d0, ds0, p0, q0, hargs, rfl, rfl, h0, r0⟩ := trodAll_cons hA
  obtain ⟨v1, vs1, d1, ds1, p1, q1, he1, rfl, rfl, h1, r1⟩ := trodAll_cons r0
  obtain ⟨v2, vs2, d2, ds2, p2, q2, he2, rfl, rfl, h2, r2⟩ := trodAll_cons r1
  obtain ⟨v3, vs3, d3, ds3, p3, q3, he3, rfl, rfl, h3, r3⟩ := trodAll_cons r2
  obtain ⟨rfl, rfl, rfl⟩ := trodAll_nil r3
  subst he3
  subst he2
  subst he1
  obtain rfl : args = #[v0, v1, v2, v3] := by cases args; simp_all
  obtain ⟨rfl, rfl⟩ := trodVars_none hV
  obtain ⟨A0, n0, c0, l0, rfl, rd0, nc0, cm0, wf0⟩ := open_rd Try.underlying31 Try.underlying5 Try.cells5 (hval 0 31 v0 rfl rfl) h0 (fun x hx => hlt x (by simp [hx]))
  obtain ⟨m0, hm0, lt0⟩ := bytes_nat wf0
  rw [hm0] at rd0
  obtain ⟨A1, n1, c1, l1, rfl, rd1, nc1, cm1, wf1⟩ := open_rd Try.underlying31 Try.underlying5 Try.cells5 (hval 1 31 v1 rfl rfl) h1 (fun x hx => hlt x (by simp [hx]))
  obtain ⟨m1, hm1, lt1⟩ := bytes_nat wf1
  rw [hm1] at rd1
  obtain ⟨A2, n2, c2, l2, rfl, rd2, nc2, cm2, wf2⟩ := open_rd Try.underlying37 Try.underlying3 Try.cells3 (hval 2 37 v2 rfl rfl) h2 (fun x hx => hlt x (by simp [hx]))
  obtain ⟨x3, rfl⟩ := okWide_int Try.underlying3 (hval 3 3 v3 rfl rfl)
  refine (walk W A0 n0 c0 m0 rd0 lt0 A1 n1 c1 m1 rd1 lt1 A2 n2 c2 l2 rd2 nc2 cm2 x3).mono fun e W' ⟨he, hb⟩ => ?_
  subst he
  exact ⟨_, rfl, law_post Try.laidOut (by kernel_rfl) rfl rfl Try.underlying4 hW' ⟨rfl, rfl, rfl⟩ hb⟩

theorem over : Rows.diskSwapsRow.holds Try.pinned (OpenSpec.ofChange Rows.diskSwapsSpec) :=
  OpenClaim.holds_of_wide 8 Try.f8 rfl rfl rfl rfl rfl rfl rfl ⟨rfl, rfl, rfl, rfl, rfl⟩ rfl rfl rfl rfl rfl (by kernel_rfl) Try.func8 (by kernel_rfl)
    (of_decide_eq_true (by kernel_rfl)) (by unfold Func.isWrapper; first | (rw [if_pos (by decide +kernel)]; kernel_rfl) | (rw [if_neg (by decide +kernel)]; exact ⟨rfl, rfl⟩))
    (fun os started H enc _ => lifted os started H enc)

/-- THE STATEMENT. -/
theorem proved : Rows.DiskSwapsSaid :=
  over
end Go.Proofs.Ytedjfbkfaioihaa.diskSwaps
