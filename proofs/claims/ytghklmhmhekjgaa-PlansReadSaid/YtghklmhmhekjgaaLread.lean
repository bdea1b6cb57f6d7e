/- What all bytes are as plans, or that they are none. Without conditions. -/
import Derived.Test.YtghklmhmhekjgaaRread
import Derived.Test.YtghklmhmhekjgaaSame
import Derived.Test.YtghklmhmhekjgaaBytesC
import Derived.Test.YtghklmhmhekjgaaAlive
import Derived.Test.YtghklmhmhekjgaaRows
import Derived.Test.YtghklmhmhekjgaaChecked
namespace Go.Proofs.Ytghklmhmhekjgaa.plansRead
open Go.ChangeShapes Go.WideShapes Go.ChangeAt Go.RowKit Go.Deep PC

theorem own_Adr {w : World} {base m c : Nat} {e : TypeId} {sz : Nat} {A : Option Addr} {xs : List Value} (h : w.ownsRow base e sz (.slice A m c) m xs) : Adr A c := by
  rcases own_adr h with ⟨h1, _, h3⟩ | ⟨g, h⟩
  · exact .inl ⟨h1, h3⟩
  · exact .inr ⟨g, 0, h⟩

set_option maxRecDepth 100000 in
set_option maxHeartbeats 4000000 in
theorem walk (A0 : Option Addr) (n0 c0 : Nat) (l : List Nat) (w : World) (h0 : Rd w w.heap.size A0 n0 (l.map bv)) (hnc : n0 ≤ c0) (hcm : c0 ≤ maxLen) (hlt : ∀ x ∈ l, x < 256) :
    Calls Try.prog 5 #[.slice A0 n0 c0] w fun e w' => e = .returned (.bool true) ∧ Below w.heap.size w w' := by
  have hal := alive7 w
  obtain ⟨i0, hi, hz0, hz1, hz2⟩ := info_parts Try.info5
  by_cases b0 : 5000 < n0
  · have d0 : decide (5000 < ((n0 : Nat) : Int)) = true := decide_eq_true (by omega)
    go_enter Try.func5, Try.ntmps5
    go_wp2_with fail
    refine hal.mono ?_
    rintro e w1 ⟨rfl, hb1⟩
    go_wp2_with fail
    go_ret
    exact ⟨rfl, hb1⟩
  · have d0 : decide (5000 < ((n0 : Nat) : Int)) = false := decide_eq_false (by omega)
    have hn0 : n0 ≤ 5000 := by omega
    go_enter Try.func5, Try.ntmps5
    go_wp2_with fail
    refine hal.mono ?_
    rintro e w1 ⟨rfl, hb1⟩
    have h1 := h0.below hb1
    have hs1 := hb1.size
    clear hal
    go_wp2_with (at_builtin; refine wpList_copy rfl (.const (.slice none 0 0)) (.tmp 18) 36 rfl 5 i0 _ 1 Try.underlying36 hi hz0 hz1 hz2 rfl rfl A0 n0 c0 w.heap.size (l.map bv) rfl h1 (one_bytes l) (by omega) (by unfold maxLen; omega) ?_; intro v2 w2 hown2 hb2; obtain ⟨A2, m2, c2, rfl, howX⟩ := own_slice3 hown2; clear hown2)
    have hb12 := hb1.trans (hb2.mono hs1)
    have hs2 := hb2.size
    obtain ⟨A2', c2', hv, hrd2, hmc2, hcm2⟩ := Rd.of_own howX
    injection hv with e1 e2 e3
    subst e1; subst e3
    have hm2 : m2 ≤ 5000 := by have h1 := hrd2.blen; have h2 := h0.blen; omega
    have hu := unpack14 A2 m2 c2 w2.heap.size l w2 hrd2 hmc2 hcm2 (by omega) hlt (own_Adr howX) (Nat.le_refl _)
    have hr := fun W (h : Below w2.heap.size w2 W) => rread15 A0 n0 c0 w.heap.size l W ((h0.below hb12).below (h.mono hb12.size)) hnc hcm (by omega) hlt (by have := h.size; have := hb12.size; omega)
    have HB := Lib.hid hb12
    have HR := Lib.hid hr
    clear hr howX hrd2 hb12 hb1 hb2 h1 h0 hlt e2
    cases hA : ans l with
    | none =>
      unfold UPost at hu
      rw [hA] at hu
      refine hu.mono ?_
      clear hu
      rintro e w3 ⟨rfl, hb3⟩
      have hr3 := HR.out w3 hb3
      unfold RRPost at hr3
      rw [hA] at hr3
      have HB3 := Lib.hid (HB.out.trans (hb3.mono HB.out.size))
      clear hb3 hA
      go_wp2_with fail
      refine hr3.mono ?_
      clear hr3
      rintro e w4 ⟨rfl, hb4⟩
      have HB4 := Lib.hid (HB3.out.trans (hb4.mono HB3.out.size))
      clear hb4
      go_wp2_with fail
      refine (num11 _ _).mono ?_
      rintro e w5 ⟨rfl, hw5⟩
      rw [hw5]
      clear hw5 w5
      go_wp2_with fail
      go_ret
      exact ⟨rfl, HB4.out⟩
    | some M =>
      have hg := (ans_good hA).1
      unfold UPost at hu
      rw [hA] at hu
      refine hu.mono ?_
      clear hu
      rintro e w3 ⟨T, b, rfl, hT3, hT0, hb0, hb3⟩
      have hr3 := HR.out w3 hb3
      unfold RRPost at hr3
      rw [hA] at hr3
      have HB3 := Lib.hid (HB.out.trans (hb3.mono HB.out.size))
      have HT3 := Lib.hid hT3
      have HG := Lib.hid hg
      clear hb3 hA hT3 hg
      go_wp2_with fail
      refine hr3.mono ?_
      clear hr3
      rintro e w4 ⟨v4, rfl, hown4, hb4⟩
      obtain ⟨A4, m4, c4, rfl, ho4⟩ := own_slice3 hown4
      have hT4 := HT3.out.below hb4 HT3.out.lt.1 HT3.out.lt.2
      have HB4 := Lib.hid (HB3.out.trans (hb4.mono HB3.out.size))
      have hl := list13 T b M w4 hT4 (by have := HG.out.len; omega)
      have HO4 := Lib.hid ho4
      clear hb4 hown4 ho4 hT4
      go_wp2_with fail
      refine (num11 _ _).mono ?_
      rintro e w5 ⟨rfl, hw5⟩
      rw [hw5]
      clear hw5 w5
      go_wp2_with fail
      refine hl.mono ?_
      clear hl
      rintro e w6 ⟨v6, rfl, hown6, hb6⟩
      obtain ⟨A6, m6, c6, rfl, ho6⟩ := own_slice3 hown6
      have hm6 := own_len ho6
      have hm4 := own_len HO4.out
      have hpv6 := Pv.of_own' ho6
      have hpv4 : Pv w6 w4.heap.size A4 m4 M := (Pv.of_own' HO4.out).below hb6
      rw [hm6] at hpv6 ⊢
      rw [hm4] at hpv4 ⊢
      have hsm := same16 A6 A4 M.length c6 c4 _ _ M w6 hpv6 hpv4 (by have := HG.out.len; omega)
      have HB6 := Lib.hid (HB4.out.trans (hb6.mono HB4.out.size))
      obtain ⟨N, hN⟩ : ∃ N, M.length = N := ⟨_, rfl⟩
      rw [hN] at hsm ⊢
      clear hN hm6 hm4 hpv6 hpv4 hown6 ho6 hb6
      go_wp2_with fail
      refine hsm.mono ?_
      rintro e w7 ⟨rfl, q, hw7⟩
      rw [hw7]
      clear hw7 w7
      go_wp2_with fail
      go_ret
      exact ⟨rfl, below_drewN HB6.out q⟩

set_option maxRecDepth 100000 in
theorem lifted (os : Os) (started : os.Started) (H : Type) (enc : TypeId × Value → H) :
    ReturnsInHanded {} Try.checked os 5 .any (Rows.plansReadSpec.pre6 enc Try.prog Try.f5 Rows.plansReadRow.domain false) (Rows.plansReadSpec.post enc Try.prog Try.f5 false true false false) := by
  refine returnsInHanded_of_change_sized (C := Try.checked) Try.own started (by kernel_rfl) Try.func5
    (ChangeSpec.witness6 (enc := enc) (C := Try.checked) false ⟨#[], #[.slice none 0 0], []⟩ 8 (by kernel_rfl) (by kernel_rfl) (by kernel_rfl) (by kernel_rfl)) ?_
  intro W base args ds gs before hval0 hW hcnd hwt0 _
  have hval : ∀ (j : Nat) t v, Try.f5.params[j]? = some t → args[j]? = some v → Value.okWide Try.prog W .any base t v := hval0
  have hW' := hW
  obtain ⟨p, q, hA0, hV, rfl, _, _⟩ := hW
  have hA : DataW.TrodAll enc Try.prog W 0 (fun _ => true) true Try.f5.params.toList args.toList ds p := hA0
  rw [Try.params5] at hA hval
  obtain ⟨v0, vs0, d0, ds0, p0, q0, hargs, rfl, rfl, h0, r0⟩ := trodAll_cons hA
  obtain ⟨rfl, rfl, rfl⟩ := trodAll_nil r0
  obtain rfl : args = #[v0] := by cases args; simp_all
  obtain ⟨rfl, rfl⟩ := trodVars_none hV
  have hlt : ∀ x ∈ p0 ++ [], x.block < W.heap.size := fun x hx => by simpa using hW'.lt x (by simpa using hx)
  obtain ⟨A0, n0, c0, l0, rfl, rd0, hnc, hcm, wf0⟩ := open_rd Try.underlying36 Try.underlying5 Try.cells5 (hval 0 36 v0 rfl rfl) h0 (fun x hx => hlt x (by simp [hx]))
  obtain ⟨m0, hm0, hb0⟩ := bytes_nat wf0
  rw [hm0] at rd0
  refine (walk A0 n0 c0 m0 W rd0 hnc hcm hb0).mono fun e W' ⟨he, hb⟩ => ?_
  subst he
  exact ⟨_, rfl, law_post Try.laidOut (by kernel_rfl) rfl rfl Try.underlying4 hW' ⟨rfl, rfl, rfl⟩ hb⟩

theorem over : Rows.plansReadRow.holds Try.pinned (OpenSpec.ofChange Rows.plansReadSpec) :=
  OpenClaim.holds_of_wide 5 Try.f5 rfl rfl rfl rfl rfl rfl rfl ⟨rfl, rfl, rfl, rfl, rfl⟩ rfl rfl rfl rfl rfl (by kernel_rfl) Try.func5 (by kernel_rfl)
    (of_decide_eq_true (by kernel_rfl)) (by unfold Func.isWrapper; first | (rw [if_pos (by decide +kernel)]; kernel_rfl) | (rw [if_neg (by decide +kernel)]; exact ⟨rfl, rfl⟩))
    (fun os started H enc _ => lifted os started H enc)

/-- THE STATEMENT. -/
theorem proved : Rows.PlansReadSaid :=
  over
end Go.Proofs.Ytghklmhmhekjgaa.plansRead
