/- What labels.read and labels.Parse answer. Conditions: texts of at most 10^6 bytes; the error that is told lies where it was laid. -/
import Derived.Test.YtlicnadbccjbjaaDoorDunq
namespace Go.Proofs.YtlicnadbccjbjaaDoor
open Go.RowKit LB

def strLen (v : Value) : Nat := match v with | .string s => s.size | _ => 0
/-- What read answers. -/
def RdPost (w : World) (S : List UInt8) (ea : Addr) (e : Ending) (w' : World) : Prop :=
  Below w.heap.size w w' ∧ ((e = .returned (.tuple #[.slice none 0 0, errV ea]) ∧ ∀ m, Good m → textM m ≠ S) ∨
    ∃ (v : Value) (l : List Lab), e = .returned (.tuple #[v, .nilIface]) ∧ w'.ownsRow w.heap.size 37 2 v l.length (lv l) ∧ l.length ≤ 1000000 ∧ ∀ m, Good m → textM m = S → l = m)
theorem cut40 (R : List UInt8) (c : UInt8) (w : World) : Calls Tryd.prog 40 #[.string (bs R), .string ⟨#[c]⟩] w fun e w' => e = .returned (.tuple #[.string (bs (Lib.trimPrefix R [c])), .bool (Lib.hasPrefix R [c])]) ∧ w' = w := by
  have h := Tryd.strings_CutPrefix (bs R) ⟨#[c]⟩ w
  rw [bs_data] at h
  exact h

set_option maxRecDepth 100000 in
set_option maxHeartbeats 4000000 in
theorem read30 (s : ByteArray) (ea : Addr) (w : World) (hs : s.size ≤ 1000000) (he : w.cell? ⟨0, 0, none⟩ = some (errV ea)) (h0 : 0 < w.heap.size) :
    Calls Tryd.prog 30 #[.string s] w (RdPost w s.data.toList ea) := by
  obtain ⟨i0, hi, hz0, hz1, hz2⟩ := info_parts Tryd.info37
  have hcut := cut40 s.data.toList 123 w
  rw [bs_of] at hcut
  have hinv := inv_start s.data.toList
  have htl := trim_le s.data.toList [123]
  have hsl : s.data.toList.length = s.size := by simp
  obtain ⟨R0, hR0⟩ : ∃ R, R = Lib.trimPrefix s.data.toList [123] := ⟨_, rfl⟩
  obtain ⟨O0, hO0⟩ : ∃ R, R = Lib.hasPrefix s.data.toList [123] := ⟨_, rfl⟩
  rw [← hR0, ← hO0] at hcut hinv
  rw [← hR0] at htl
  have HCUT := Lib.hid hcut
  have HINV := Lib.hid hinv
  have hR0l : R0.length ≤ s.size := by omega
  clear hcut hinv htl hsl hR0 hO0
  go_enter Tryd.func30, Tryd.ntmps30
  go_wp2_with fail
  refine HCUT.out.mono ?_
  rintro e w1 ⟨rfl, hw1⟩; rw [hw1]; clear hw1 w1
  go_wp2_with fail
  go_loopw [4, 5, 6] (fun r o v wr => ∃ (R : List UInt8) (ok : Bool) (n : Nat) (l : List Lab), r = .string (bs R) ∧ o = .bool ok ∧ n + R.length ≤ s.size ∧ Hid (l.length = n) ∧ wr.ownsRow w.heap.size 37 2 v n (lv l) ∧ Hid (Inv s.data.toList l R ok) ∧ Below w.heap.size w wr) (fun r _ _ _ => strLen r)
  case atStart => exact ⟨R0, O0, 0, [], rfl, rfl, by omega, rfl, World.ownsRow_nil _ _ _ _, HINV, Below.refl _ _⟩
  case round =>
    obtain ⟨R, ok, n, l, rfl, rfl, hnR, hln, hown, hiv, hb⟩ := hrel
    have hsz := hb.size
    have he1 : wr.cell? ⟨0, 0, none⟩ = some (errV ea) := (hb.cell (p := ⟨0, 0, none⟩) h0).trans he
    cases ok with
    | false =>
      by_cases hfin : R = [125]
      · have e1 : ((bs R).toList == [125]) = true := by rw [hfin, bs_toList]; rfl
        have HE := Lib.hid (inv_end hiv.out)
        have hn6 : n ≤ 1000000 := by omega
        clear hfin
        go_wp2_with fail
        go_ret2
        exact ⟨hb, .inr ⟨u6, l, rfl, by rw [hln.out]; exact hown, by rw [hln.out]; exact hn6, HE.out⟩⟩
      · have e1 : ((bs R).toList == [125]) = false := by rw [bs_toList, beq_eq_false_iff_ne]; exact hfin
        have HE := Lib.hid (inv_bad_end hiv.out hfin)
        clear hfin
        go_wp2_with fail
        go_quiet (fail)
        go_wp2_with fail
        go_ret2
        exact ⟨below_drewN hb _, .inl ⟨rfl, HE.out⟩⟩
    | true =>
      have hwd := word39 (bs R) (wr.alloc (.cells #[.string ⟨#[]⟩, .string ⟨#[]⟩] 37)) (by rw [bs_size]; omega)
      unfold WPost at hwd
      rw [bs_data] at hwd
      have hdl := drop_le R
      obtain ⟨N1, hN1⟩ : ∃ N, N = R.takeWhile okB := ⟨_, rfl⟩
      obtain ⟨R1, hR1⟩ : ∃ N, N = R.dropWhile okB := ⟨_, rfl⟩
      rw [← hN1, ← hR1] at hwd
      rw [← hR1] at hdl
      have HWD := Lib.hid hwd
      have HNR := Lib.hid (And.intro hN1 hR1)
      have HOWN := Lib.hid hown
      clear hwd hN1 hR1 hown
      go_wp2_with fail
      refine HWD.out.mono ?_
      rintro e w3 ⟨rfl, hb3⟩
      have ax := (Arr.new wr 37 #[.string ⟨#[]⟩, .string ⟨#[]⟩]).below hb3 (by simp)
      have hs3 := hb3.size
      simp only [World.size_alloc] at hs3
      have hx0 := ax.at_ (i := 0) (v := .string ⟨#[]⟩) rfl
      have hxf := ax.frozen 0
      go_wp2_with fail
      obtain ⟨w4, hw4⟩ : ∃ w4, w4 = w3.setCell ⟨wr.heap.size, 0, none⟩ (.string (bs N1)) := ⟨_, rfl⟩
      have ax4 : Arr w4 wr.heap.size 37 #[.string (bs N1), .string ⟨#[]⟩] := by rw [hw4]; exact ax.set 0 _
      have hb4 : Below w.heap.size w w4 := by rw [hw4]; exact ((hb.alloc hsz _).trans (hb3.mono (by simp; omega))).setCell (p := ⟨wr.heap.size, 0, none⟩) hsz _
      have hk4 : Kp (fun _ => False) wr w4 := by
        rw [hw4]
        exact ((((Kp.refl (fun _ => False) wr).alloc (.cells #[.string ⟨#[]⟩, .string ⟨#[]⟩] 37))).trans (Kp.none_of_below (S := fun _ => False) hb3) (fun _ _ h => h)).setCell (p := ⟨wr.heap.size, 0, none⟩) (.inr (Nat.le_refl _)) _
      have hown4 := own_kp HOWN.out hk4 (fun _ _ h => h)
      have he4 : w4.cell? ⟨0, 0, none⟩ = some (errV ea) := (hb4.cell (p := ⟨0, 0, none⟩) h0).trans he
      have hs4 := ax4.lt
      rw [← hw4]
      clear hw4 ax hb3 hx0 hxf hk4 hs3
      have htr := trim_le R1 [61]
      have hct := fun W => cut40 R1 61 W
      obtain ⟨R2, hR2⟩ : ∃ R, R = Lib.trimPrefix R1 [61] := ⟨_, rfl⟩
      obtain ⟨O2, hO2⟩ : ∃ R, R = Lib.hasPrefix R1 [61] := ⟨_, rfl⟩
      rw [← hR2] at htr
      simp only [← hR2, ← hO2] at hct
      have HCT := Lib.hid hct
      have HRO := Lib.hid (And.intro hR2 hO2)
      clear hct hR2 hO2
      refine (HCT.out _).mono ?_
      rintro e w5 ⟨rfl, hw5⟩; rw [hw5]; clear hw5 w5
      cases O2 with
      | false =>
        have HE : Hid (∀ m, Good m → textM m ≠ s.data.toList) := inv_no_eq hiv.out (by rw [← HNR.out.2]; exact HRO.out.2.symm)
        go_wp2_with fail
        go_quiet (fail)
        go_wp2_with fail
        go_ret2
        exact ⟨below_drewN hb4 _, .inl ⟨rfl, HE.out⟩⟩
      | true =>
        have huq := unq41 (bs R2) ea w4 (by rw [bs_size]; omega) he4 (by omega)
        unfold UPost at huq
        rw [bs_data] at huq
        have hx1 := ax4.at_ (i := 1) (v := .string ⟨#[]⟩) rfl
        cases hu : unqS R2 with
        | none =>
          have HE : Hid (∀ m, Good m → textM m ≠ s.data.toList) := inv_no_unq hiv.out (by rw [← HNR.out.2, ← HRO.out.1]; exact hu)
          rw [hu] at huq
          have HUQ := Lib.hid huq
          clear huq hu
          go_wp2_with fail
          refine HUQ.out.mono ?_
          rintro e w6 ⟨hb6, rfl⟩
          have ax6 := ax4.below hb6 hs4
          have y0 := ax6.at_ (i := 0) (v := .string (bs N1)) rfl
          have y1 := ax6.at_ (i := 1) (v := .string ⟨#[]⟩) rfl
          have yf := ax6.frozen 1
          have hb6' : Below w.heap.size w w6 := hb4.trans (hb6.mono hb4.size)
          go_wp2_with fail
          go_ret2
          exact ⟨hb6'.setCell (p := ⟨wr.heap.size, 1, none⟩) hsz _, .inl ⟨rfl, HE.out⟩⟩
        | some vr =>
          obtain ⟨v, r3⟩ := vr
          have hul := unqS_less hu
          have hst := inv_step hiv.out (by rw [← HNR.out.2, ← HRO.out.1]; exact hu)
          rw [← HNR.out.1] at hst
          rw [hu] at huq
          have HUQ := Lib.hid huq
          have HST := Lib.hid hst
          have ht3 := trim_le r3 [44]
          have hc3 := fun W => cut40 r3 44 W
          obtain ⟨R4, hR4⟩ : ∃ R, R = Lib.trimPrefix r3 [44] := ⟨_, rfl⟩
          obtain ⟨O4, hO4⟩ : ∃ R, R = Lib.hasPrefix r3 [44] := ⟨_, rfl⟩
          rw [← hR4] at ht3
          rw [← hR4, ← hO4] at hst
          simp only [← hR4, ← hO4] at hc3
          have HC3 := Lib.hid hc3
          have HST2 := Lib.hid hst
          clear huq hu hst hc3 hR4 hO4 HST
          go_wp2_with fail
          refine HUQ.out.mono ?_
          rintro e w6 ⟨hb6, rfl⟩
          have ax6 := ax4.below hb6 hs4
          have y0 := ax6.at_ (i := 0) (v := .string (bs N1)) rfl
          have y1 := ax6.at_ (i := 1) (v := .string ⟨#[]⟩) rfl
          have yf := ax6.frozen 1
          have hb6' : Below w.heap.size w w6 := hb4.trans (hb6.mono hb4.size)
          have hown6 := own_kp hown4 (Kp.none_of_below (S := fun _ => False) hb6) (fun _ _ h => h)
          have hb7 : Below w.heap.size w (w6.setCell ⟨wr.heap.size, 1, none⟩ (.string (bs v))) := hb6'.setCell (p := ⟨wr.heap.size, 1, none⟩) hsz _
          have hown7 : (w6.setCell ⟨wr.heap.size, 1, none⟩ (.string (bs v))).ownsRow w.heap.size 37 2 u6 n (lv l) := own_far hown6 (fun h => by have h1 := (HOWN.out.lt _ h).2; simp at h1) _
          have hs6 := hb6'.size
          have hn6 : n + 1 ≤ 1000000 := by omega
          have htc := two_cells (w6.setCell ⟨wr.heap.size, 1, none⟩ (.string (bs v))) (.string (bs N1)) (.string (bs v)) 37
          rw [World.size_setCell] at htc
          go_wp2_with (at_builtin; refine wpList_append_lies _ rfl (.tmp 40) (.tmp 42) 22 rfl w.heap.size 37 i0 _ 2 32 Tryd.underlying22 hi hz0 hz1 hz2 rfl (by decide) u6 n (lv l) rfl (hown7.alloc _) ⟨w6.heap.size, 0, none⟩ 1 1 [.string (bs N1), .string (bs v)] rfl rfl htc (by simp [Value.oneCell']) (by omega) (by unfold maxLen; omega) (by omega) (by simp; omega) (w6.heap.size + 1) (by simp) ?_; intro r cap w8 hown8 hg8 hat8 hlt8)
          have HF : Hid (w8.ownsRow w.heap.size 37 2 (.slice (some ⟨r, 0, none⟩) (n + 1) cap) (n + 1) (lv (l ++ [(bs N1, bs v)])) ∧ Below w.heap.size w w8) := by
            refine ⟨by rw [lv_append]; exact hown8, (hb7.alloc (by simp; omega) _).grown hg8 (by simp; omega) (fun x hx => (HOWN.out.lt x hx).1)⟩
          clear hown8 hg8 hat8 hlt8 hown7 hb7 hown6 hown4
          go_wp2_with fail
          refine (HC3.out _).mono ?_
          rintro e w9 ⟨rfl, hw9⟩; rw [hw9]; clear hw9 w9
          go_wp2_with fail
          go_roundw
          case rel => exact ⟨R4, O4, n + 1, _, rfl, rfl, by omega, by show _ = _; rw [List.length_append, hln.out]; rfl, HF.out.1, HST2.out, HF.out.2⟩
          case measure => show (bs R4).size < (bs R).size; rw [bs_size, bs_size]; omega
end Go.Proofs.YtlicnadbccjbjaaDoor
