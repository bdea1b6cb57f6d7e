/- What a step of the disk answers, and what it leaves. No conditions but on what it asks and does. -/
import Derived.Test.YtedjfbkfaioihaaNeed
import Derived.BigQuiet
import Derived.Deep.RegionHeld3
import Derived.Deep.RegionWith
import Derived.Shelf.Abstract
namespace Go.Proofs.Ytedjfbkfaioihaa
open Go.RowKit Go.Shelf
theorem read6 (B : Nat) (c : Int) (tmps : Array Value) (w : World) (hE : Arr w B 25 #[.int .i64 c]) (ht : tmps.getD 6 undef = .pointer (some ⟨B, 0, none⟩)) : (results Try.f37 tmps).run Try.prog w = .ok (.int .i64 c) w := by
  have hc : w.cell? ⟨B, 0, none⟩ = some (.int .i64 c) := hE.at_ rfl
  have e : (results Try.f37 tmps).run Try.prog w = ((asAddr (tmps.getD 6 undef)).run Try.prog w).andThen fun a w₁ => ((loadVar 25 a).run Try.prog w₁).andThen fun v w₂ => .ok v w₂ := by
    simp only [results, Try.results37]
    simp [Sem.run_bind, Result.andThen]
    generalize (asAddr (tmps[6]?.getD undef)).run Try.prog w = r
    cases r with
    | halt h w1 => exact Eq.refl _
    | ok a w1 =>
      simp only
      generalize (loadVar 25 a).run Try.prog w1 = r2
      cases r2 <;> exact Eq.refl _
  rw [e, ht]
  simp [go_sem, hc]
theorem caught {R : Ending → World → Prop} (B : Nat) (c x : Int) (tmps : Array Value) (w1 : World) (hE : Arr w1 B 25 #[.int .i64 x]) (ht : tmps.getD 6 undef = .pointer (some ⟨B, 0, none⟩))
    (hR : ∀ w2, Kp (fun x => x = B) w1 w2 → R (.returned (.int .i64 c)) w2) :
    bodyPostD Try.prog Try.f37 R (Exit.panic [{ v := stopv c, recovered := false }]) { tmps := tmps, defers := [{ target := Target.fn (Fn.func 79) #[.pointer (some ⟨B, 0, none⟩)], args := #[] }] } w1 := by
  refine leaves_cons (f := 79) (args := #[.pointer (some ⟨B, 0, none⟩)]) (by simp) (by simp [go_sem]) ?_
  refine (catch_panicking B x c [] w1 hE).mono ?_
  rintro e u' w'' ⟨rfl, rfl, rfl⟩
  have hE2 := (hE.alloc (.cells #[.int .i64 c] 111)).set 0 (.int .i64 c)
  have hk : Kp (fun x => x = B) w1 ((w1.alloc (.cells #[.int .i64 c] 111)).setCell ⟨B, 0, none⟩ (.int .i64 c)) := ((Kp.refl (fun x => x = B) w1).alloc _).setCell (p := ⟨B, 0, none⟩) (.inl rfl) _
  exact ⟨_, read6 B c tmps _ hE2 ht, hR _ hk⟩
theorem ended {R : Ending → World → Prop} (B : Nat) (c : Int) (tmps : Array Value) (w1 : World) (hE : Arr w1 B 25 #[.int .i64 c]) (ht : tmps.getD 6 undef = .pointer (some ⟨B, 0, none⟩))
    (hR : R (.returned (.int .i64 c)) w1) :
    bodyPostD Try.prog Try.f37 R Exit.ret { tmps := tmps, defers := [{ target := Target.fn (Fn.func 79) #[.pointer (some ⟨B, 0, none⟩)], args := #[] }] } w1 := by
  refine leaves_cons (f := 79) (args := #[.pointer (some ⟨B, 0, none⟩)]) (by simp) (by simp [go_sem]) ?_
  refine (catch_idle ⟨B, 0, none⟩ w1).mono ?_
  rintro e u' w'' ⟨rfl, rfl, rfl⟩
  exact ⟨_, read6 B c tmps _ hE ht, hR⟩

theorem Try.make (fn : Fn) (first cap : Array Value) (w : World) : (Instr.makeFunc fn first cap).run Try.prog w = .ok (.func fn first cap) w := rfl

set_option maxRecDepth 100000 in
set_option maxHeartbeats 1000000 in
theorem step_off (D : Nat) (q m1 m2 p fu fa st a b : Value) (w : World) (hA : Arr w D 64 #[q, m1, m2, p, .bool true, fu, fa, st]) :
    Calls Try.prog 37 #[.pointer (some ⟨D, 0, none⟩), a, b] w fun e w' => e = .returned (.int .i64 12) ∧ Below w.heap.size w w' := by
  have hmf := Try.make
  have hA1 := hA.alloc (.cells #[.int .i64 0] 25)
  have c4 : (w.alloc (.cells #[.int .i64 0] 25)).cell? ⟨D, 4, none⟩ = some (.bool true) := hA1.at_ rfl
  clear hA1
  go_enter_defers Try.func37, Try.ntmps37
  go_wp2_with fail
  refine (need_no 12 _).mono ?_
  rintro e w1 ⟨rfl, rfl⟩
  go_wp2_with fail
  refine caught w.heap.size 12 0 _ _ (Arr.new w 25 _) rfl fun w2 hk => ⟨rfl, ?_⟩
  exact ((Below.refl _ w).alloc (Nat.le_refl _) _).trans (hk.below (by simp) (fun x hx e => by omega))

set_option maxRecDepth 100000 in
set_option maxHeartbeats 1000000 in
theorem step_fuse (D : Nat) (q m1 m2 p fa st a b : Value) (w : World) (hA : Arr w D 64 #[q, m1, m2, p, .bool false, .int .i64 0, fa, st]) :
    Calls Try.prog 37 #[.pointer (some ⟨D, 0, none⟩), a, b] w fun e w' => e = .returned (.int .i64 12) ∧ Arr w' D 64 #[q, m1, m2, p, .bool true, .int .i64 0, fa, st] ∧ Kp (fun x => x = D) w w' := by
  have hmf := Try.make
  have hA1 := hA.alloc (.cells #[.int .i64 0] 25)
  have hlt := hA.lt
  have c4 : (w.alloc (.cells #[.int .i64 0] 25)).cell? ⟨D, 4, none⟩ = some (.bool false) := hA1.at_ rfl
  have hE1 := Arr.new w 25 #[.int .i64 0]
  have hk0 : Kp (fun x => x = D) w (w.alloc (.cells #[.int .i64 0] 25)) := (Kp.refl _ _).alloc _
  have HX := Lib.hid (And.intro hA1 (And.intro hE1 hk0))
  have hne : w.heap.size ≠ D := by omega
  clear hA1 hE1 hk0
  go_enter_defers Try.func37, Try.ntmps37
  go_wp2_with fail
  generalize w.alloc (.cells #[.int .i64 0] 25) = w0 at *
  obtain ⟨hA1, hE1, hk0⟩ := HX.out
  have c4 : w0.cell? ⟨D, 4, none⟩ = some (.bool false) := hA1.at_ rfl
  have c5 : w0.cell? ⟨D, 5, none⟩ = some (.int .i64 0) := hA1.at_ rfl
  have f4 := hA1.frozen 4
  have HA := Lib.hid hA1
  have HE := Lib.hid hE1
  have HK0 := Lib.hid hk0
  clear hA1 hE1 hk0
  refine (need_yes 12 _).mono ?_
  rintro e w1 ⟨rfl, rfl⟩
  have hA2 := HA.out.set 4 (.bool true)
  have hE2 := HE.out.far (p := ⟨D, 4, none⟩) (by simp; omega) (.bool true)
  have c42 : (w1.setCell ⟨D, 4, none⟩ (.bool true)).cell? ⟨D, 4, none⟩ = some (.bool true) := hA2.at_ rfl
  have HA2 := Lib.hid (And.intro hA2 hE2)
  have hk2 := HK0.out.setCell (p := ⟨D, 4, none⟩) (.inl rfl) (.bool true)
  have HK2 := Lib.hid hk2
  clear hA2 hE2 hk2
  go_wp2_with fail
  refine (need_no 12 _).mono ?_
  rintro e w2 ⟨rfl, rfl⟩
  go_wp2_with fail
  refine caught w.heap.size 12 0 _ _ HA2.out.2 rfl fun w3 hk => ⟨rfl, ?_, ?_⟩
  · exact HA2.out.1.kp hk (by omega)
  · exact HK2.out.trans hk (fun x hx e => by omega)

set_option maxRecDepth 100000 in
set_option maxHeartbeats 1000000 in
theorem step_ask (D fa : Nat) (caps : Array Value) (c fu : Int) (q m1 m2 p ft st b : Value) (w : World) (hA : Arr w D 64 #[q, m1, m2, p, .bool false, .int .i64 fu, ft, st]) (hfu : fu ≠ 0) (hfa : Enters Try.prog fa)
    (hask : ∀ W, Below w.heap.size w W → w.heap.size < W.heap.size → Calls Try.prog fa caps W fun e w' => e = .panicked [{ v := stopv c, recovered := false }] ∧ Below W.heap.size W w') :
    Calls Try.prog 37 #[.pointer (some ⟨D, 0, none⟩), .func (.func fa) #[] caps, b] w fun e w' => e = .returned (.int .i64 c) ∧ Below w.heap.size w w' := by
  have hmf := Try.make
  have hent : ∀ (args : Array Value) (w : World), (callFunc fa args).run Try.prog w = .ok (.enter fa args) w := hfa
  have hA1 := hA.alloc (.cells #[.int .i64 0] 25)
  have hlt := hA.lt
  have c4 : (w.alloc (.cells #[.int .i64 0] 25)).cell? ⟨D, 4, none⟩ = some (.bool false) := hA1.at_ rfl
  have hE1 := Arr.new w 25 #[.int .i64 0]
  have hb0 : Below w.heap.size w (w.alloc (.cells #[.int .i64 0] 25)) := (Below.refl _ _).alloc (Nat.le_refl _) _
  have hs0 : w.heap.size < (w.alloc (.cells #[.int .i64 0] 25)).heap.size := by simp
  have HX := Lib.hid (And.intro hA1 (And.intro hE1 (And.intro hb0 hs0)))
  have hne : w.heap.size ≠ D := by omega
  clear hA1 hE1 hb0 hs0
  have d0 : (fu == 0) = false := by simpa using hfu
  have HFU := Lib.hid hfu
  have HASK := Lib.hid hask
  clear hfu hask hfa
  go_enter_defers Try.func37, Try.ntmps37
  go_wp2_with fail
  generalize w.alloc (.cells #[.int .i64 0] 25) = w0 at *
  obtain ⟨hA1, hE1, hb0, hs0⟩ := HX.out
  have c4 : w0.cell? ⟨D, 4, none⟩ = some (.bool false) := hA1.at_ rfl
  have c5 : w0.cell? ⟨D, 5, none⟩ = some (.int .i64 fu) := hA1.at_ rfl
  have HA := Lib.hid hA1
  have HE := Lib.hid hE1
  clear hA1 hE1
  refine (need_yes 12 _).mono ?_
  rintro e w1 ⟨rfl, hw1⟩
  rw [hw1]
  clear hw1 w1
  go_wp2_with fail
  refine (need_yes 12 _).mono ?_
  rintro e w1 ⟨rfl, hw1⟩
  rw [hw1]
  clear hw1 w1
  have hq := HASK.out w0 hb0 hs0
  go_wp2_with fail
  refine hq.mono ?_
  clear hq
  rintro e w1 ⟨rfl, hb1⟩
  have HX1 := Lib.hid (And.intro (HE.out.below hb1 HE.out.lt) (hb0.trans (hb1.mono hb0.size)))
  clear hb1
  go_wp2_with fail
  refine caught w.heap.size c 0 _ _ HX1.out.1 rfl fun w3 hk => ⟨rfl, ?_⟩
  exact HX1.out.2.trans (hk.below HX1.out.2.size (fun x hx e => by omega))

set_option maxRecDepth 100000 in
set_option maxHeartbeats 1000000 in
theorem step_fault (D fa : Nat) (caps : Array Value) (fu : Int) (q m1 m2 p st b : Value) (w : World) (hA : Arr w D 64 #[q, m1, m2, p, .bool false, .int .i64 fu, .int .i64 0, st]) (hfu : fu ≠ 0) (hfa : Enters Try.prog fa)
    (hask : ∀ W, Below w.heap.size w W → w.heap.size < W.heap.size → Calls Try.prog fa caps W fun e w' => e = .returned (.tuple #[]) ∧ Below W.heap.size W w') :
    Calls Try.prog 37 #[.pointer (some ⟨D, 0, none⟩), .func (.func fa) #[] caps, b] w fun e w' => e = .returned (.int .i64 10) ∧ Arr w' D 64 #[q, m1, m2, p, .bool false, .int .i64 fu, .int .i64 (-1), st] ∧ Kp (fun x => x = D) w w' := by
  have hmf := Try.make
  have hent : ∀ (args : Array Value) (w : World), (callFunc fa args).run Try.prog w = .ok (.enter fa args) w := hfa
  have hA1 := hA.alloc (.cells #[.int .i64 0] 25)
  have hlt := hA.lt
  have c4 : (w.alloc (.cells #[.int .i64 0] 25)).cell? ⟨D, 4, none⟩ = some (.bool false) := hA1.at_ rfl
  have hE1 := Arr.new w 25 #[.int .i64 0]
  have hb0 : Below w.heap.size w (w.alloc (.cells #[.int .i64 0] 25)) := (Below.refl _ _).alloc (Nat.le_refl _) _
  have hs0 : w.heap.size < (w.alloc (.cells #[.int .i64 0] 25)).heap.size := by simp
  have HX := Lib.hid (And.intro hA1 (And.intro hE1 (And.intro hb0 hs0)))
  have hne : w.heap.size ≠ D := by omega
  clear hA1 hE1 hb0 hs0
  have d0 : (fu == 0) = false := by simpa using hfu
  have HFU := Lib.hid hfu
  have HASK := Lib.hid hask
  clear hfu hask hfa
  go_enter_defers Try.func37, Try.ntmps37
  go_wp2_with fail
  generalize w.alloc (.cells #[.int .i64 0] 25) = w0 at *
  obtain ⟨hA1, hE1, hb0, hs0⟩ := HX.out
  have c4 : w0.cell? ⟨D, 4, none⟩ = some (.bool false) := hA1.at_ rfl
  have c5 : w0.cell? ⟨D, 5, none⟩ = some (.int .i64 fu) := hA1.at_ rfl
  have HA := Lib.hid hA1
  have HE := Lib.hid hE1
  clear hA1 hE1
  refine (need_yes 12 _).mono ?_
  rintro e w1 ⟨rfl, hw1⟩
  rw [hw1]
  clear hw1 w1
  go_wp2_with fail
  refine (need_yes 12 _).mono ?_
  rintro e w1 ⟨rfl, hw1⟩
  rw [hw1]
  clear hw1 w1
  have hq := HASK.out w0 hb0 hs0
  go_wp2_with fail
  refine hq.mono ?_
  clear hq
  rintro e w1 ⟨rfl, hb1⟩
  have hA1 := HA.out.below hb1 HA.out.lt
  have c6 : w1.cell? ⟨D, 6, none⟩ = some (.int .i64 0) := hA1.at_ rfl
  have f6 := hA1.frozen 6
  have hA2 := hA1.set 6 (.int .i64 (-1))
  have hb01 : Below w.heap.size w w1 := hb0.trans (hb1.mono hb0.size)
  have hk2 : Kp (fun x => x = D) w (w1.setCell ⟨D, 6, none⟩ (.int .i64 (-1))) := (Kp.none_of_below (S := fun x => x = D) hb01).setCell (p := ⟨D, 6, none⟩) (.inl rfl) _
  have HX1 := Lib.hid (And.intro ((HE.out.below hb1 HE.out.lt).far (p := ⟨D, 6, none⟩) (by simp; omega) (.int .i64 (-1))) (And.intro hA2 hk2))
  clear hb1 hA1 hA2 hk2 hb01
  go_wp2_with fail
  refine (must_no _).mono ?_
  rintro e w2 ⟨rfl, rfl⟩
  go_wp2_with fail
  refine caught w.heap.size 10 0 _ _ HX1.out.1 rfl fun w3 hk => ⟨rfl, ?_, ?_⟩
  · exact HX1.out.2.1.kp hk (by omega)
  · exact HX1.out.2.2.trans hk (fun x hx e => by omega)

/-- What a step that is done leaves. -/
def DonePost (w : World) (D : Nat) (fu ft st : Int) (R : World → World → Value → Value → Value → Value → Prop) (e : Ending) (w' : World) : Prop :=
  e = .returned (.int .i64 0) ∧ ∃ (W w1 : World) (q m1 m2 p : Value), Below w.heap.size w W ∧ w.heap.size < W.heap.size ∧ R W w1 q m1 m2 p ∧ W.heap.size ≤ w1.heap.size ∧
    Arr w' D 64 #[q, m1, m2, p, .bool false, .int .i64 (less fu), .int .i64 (less ft), .int .i64 (st + 1)] ∧ Kp (fun x => x = D ∨ x = w.heap.size) w1 w'

set_option maxRecDepth 100000 in
set_option maxHeartbeats 4000000 in
theorem step_do (D fa fd : Nat) (caps capd : Array Value) (fu ft st : Int) (q0 m10 m20 p0 : Value) (R : World → World → Value → Value → Value → Value → Prop) (w : World) (hA : Arr w D 64 #[q0, m10, m20, p0, .bool false, .int .i64 fu, .int .i64 ft, .int .i64 st]) (hfu : fu ≠ 0) (hft : ft ≠ 0)
    (hfu2 : -1 ≤ fu ∧ fu ≤ 9223372036854775807) (hft2 : -1 ≤ ft ∧ ft ≤ 9223372036854775807) (hst : 0 ≤ st ∧ st ≤ 1000000000) (hfa : Enters Try.prog fa) (hfd : Enters Try.prog fd)
    (hask : ∀ W, Below w.heap.size w W → w.heap.size < W.heap.size → Calls Try.prog fa caps W fun e w' => e = .returned (.tuple #[]) ∧ Below W.heap.size W w')
    (hdo : ∀ W, Below w.heap.size w W → w.heap.size < W.heap.size → Calls Try.prog fd capd W fun e w' => e = .returned (.tuple #[]) ∧ ∃ q m1 m2 p, Arr w' D 64 #[q, m1, m2, p, .bool false, .int .i64 fu, .int .i64 ft, .int .i64 st] ∧ R W w' q m1 m2 p ∧ Kp (fun x => x < w.heap.size) W w') :
    Calls Try.prog 37 #[.pointer (some ⟨D, 0, none⟩), .func (.func fa) #[] caps, .func (.func fd) #[] capd] w (DonePost w D fu ft st R) := by
  have HDO := Lib.hid hdo
  have hend : ∀ (args : Array Value) (w : World), (callFunc fd args).run Try.prog w = .ok (.enter fd args) w := hfd
  clear hdo hfd
  have hmf := Try.make
  have hent : ∀ (args : Array Value) (w : World), (callFunc fa args).run Try.prog w = .ok (.enter fa args) w := hfa
  have hA1 := hA.alloc (.cells #[.int .i64 0] 25)
  have hlt := hA.lt
  have c4 : (w.alloc (.cells #[.int .i64 0] 25)).cell? ⟨D, 4, none⟩ = some (.bool false) := hA1.at_ rfl
  have hE1 := Arr.new w 25 #[.int .i64 0]
  have hb0 : Below w.heap.size w (w.alloc (.cells #[.int .i64 0] 25)) := (Below.refl _ _).alloc (Nat.le_refl _) _
  have hs0 : w.heap.size < (w.alloc (.cells #[.int .i64 0] 25)).heap.size := by simp
  have HX := Lib.hid (And.intro hA1 (And.intro hE1 (And.intro hb0 hs0)))
  have hne : w.heap.size ≠ D := by omega
  clear hA1 hE1 hb0 hs0
  have d0 : (fu == 0) = false := by simpa using hfu
  have HFU := Lib.hid hfu
  have HASK := Lib.hid hask
  clear hfu hask hfa
  go_enter_defers Try.func37, Try.ntmps37
  go_wp2_with fail
  generalize w.alloc (.cells #[.int .i64 0] 25) = w0 at *
  obtain ⟨hA1, hE1, hb0, hs0⟩ := HX.out
  have c4 : w0.cell? ⟨D, 4, none⟩ = some (.bool false) := hA1.at_ rfl
  have c5 : w0.cell? ⟨D, 5, none⟩ = some (.int .i64 fu) := hA1.at_ rfl
  have HA := Lib.hid hA1
  have HE := Lib.hid hE1
  clear hA1 hE1
  refine (need_yes 12 _).mono ?_
  rintro e w1 ⟨rfl, hw1⟩
  rw [hw1]
  clear hw1 w1
  go_wp2_with fail
  refine (need_yes 12 _).mono ?_
  rintro e w1 ⟨rfl, hw1⟩
  rw [hw1]
  clear hw1 w1
  have hq := HASK.out w0 hb0 hs0
  go_wp2_with fail
  refine hq.mono ?_
  clear hq
  rintro e w1 ⟨rfl, hb1⟩
  have hA1 := HA.out.below hb1 HA.out.lt
  have c6 : w1.cell? ⟨D, 6, none⟩ = some (.int .i64 ft) := hA1.at_ rfl
  have d1 : (ft == 0) = false := by simpa using hft
  have hb01 : Below w.heap.size w w1 := hb0.trans (hb1.mono hb0.size)
  have hs1 : w.heap.size < w1.heap.size := Nat.lt_of_lt_of_le hs0 hb1.size
  have hE1 := HE.out.below hb1 HE.out.lt
  have HX1 := Lib.hid (And.intro hE1 hb01)
  have hq := HDO.out w1 hb01 hs1
  clear hb1 hA1 hb01 hE1 hft
  go_wp2_with fail
  refine hq.mono ?_
  clear hq
  rintro e w2 ⟨rfl, q, m1, m2, p, hA2, hR, hk2⟩
  have hE2 := HX1.out.1.kp hk2 (by omega)
  have c7 : w2.cell? ⟨D, 7, none⟩ = some (.int .i64 st) := hA2.at_ rfl
  have f7 := hA2.frozen 7
  have hA3 := hA2.set 7 (.int .i64 (st + 1))
  have hE3 := hE2.far (p := ⟨D, 7, none⟩) (by simp; omega) (.int .i64 (st + 1))
  have hk3 : Kp (fun x => x = D ∨ x = w.heap.size) w2 (w2.setCell ⟨D, 7, none⟩ (.int .i64 (st + 1))) := (Kp.refl _ _).setCell (p := ⟨D, 7, none⟩) (.inl (.inl rfl)) _
  have HX3 := Lib.hid (And.intro hA3 (And.intro hE3 (And.intro hk3 (And.intro hR (And.intro hk2.size (And.intro HX1.out.2 hs1))))))
  clear hA2 hE2 hA3 hE3 hk3 hR hk2
  have z1 : (0 : Int) ≤ st + 1 := by omega
  have z2 : st + 1 ≤ 1000000001 := by omega
  go_wp2_with fail
  obtain ⟨w3, hw3⟩ : ∃ w3, w3 = w2.setCell ⟨D, 7, none⟩ (.int .i64 (st + 1)) := ⟨_, rfl⟩
  rw [← hw3]
  rw [← hw3] at HX3
  have c35 : w3.cell? ⟨D, 5, none⟩ = some (.int .i64 fu) := HX3.out.1.at_ rfl
  have c36 : w3.cell? ⟨D, 6, none⟩ = some (.int .i64 ft) := HX3.out.1.at_ rfl
  have f35 := HX3.out.1.frozen 5
  have f36 := HX3.out.1.frozen 6
  obtain ⟨_, hfu2⟩ := hfu2
  obtain ⟨_, hft2⟩ := hft2
  clear hw3 c7 f7 c6 c4 c5 hmf hent hend d0 d1
  refine wp_region_noPanic ?_
  go_region_with (go_at_call 81; refine (less81 _ _ (by assumption)).mono ?_; rintro r w' ⟨rfl, rfl⟩)
  all_goals
    refine NoPanic.normal ?_
    generalize hw4 : World.drew _ = w4
    have hX : Hid (Arr w4 D 64 #[q, m1, m2, p, .bool false, .int .i64 (less fu), .int .i64 (less ft), .int .i64 (st + 1)] ∧ Kp (fun x => x = D ∨ x = w.heap.size) w2 w4 ∧ Arr w4 w.heap.size 25 #[.int .i64 0]) := by
      refine Lib.hid ?_
      obtain ⟨h1, h2, h3, _⟩ := HX3.out
      rw [← hw4]
      first
        | exact ⟨((h1.set 5 (.int .i64 (less fu))).set 6 (.int .i64 (less ft))).drew, ((h3.setCell (p := ⟨D, 5, none⟩) (.inl (.inl rfl)) _).setCell (p := ⟨D, 6, none⟩) (.inl (.inl rfl)) _).drew, ((h2.far (p := ⟨D, 5, none⟩) (by simp; omega) _).far (p := ⟨D, 6, none⟩) (by simp; omega) _).drew⟩
        | exact ⟨((h1.set 6 (.int .i64 (less ft))).set 5 (.int .i64 (less fu))).drew, ((h3.setCell (p := ⟨D, 6, none⟩) (.inl (.inl rfl)) _).setCell (p := ⟨D, 5, none⟩) (.inl (.inl rfl)) _).drew, ((h2.far (p := ⟨D, 6, none⟩) (by simp; omega) _).far (p := ⟨D, 5, none⟩) (by simp; omega) _).drew⟩
    clear hw4
    have fE := hX.out.2.2.frozen 0
    have cE : w4.cell? ⟨w.heap.size, 0, none⟩ = some (.int .i64 0) := hX.out.2.2.at_ rfl
    go_wp2_with fail
    refine ended w.heap.size 0 _ _ (hX.out.2.2.set 0 (.int .i64 0)) rfl ?_
    obtain ⟨_, _, _, hR, hsz, hbW, hsW⟩ := HX3.out
    exact ⟨rfl, _, w2, q, m1, m2, p, hbW, hsW, hR, hsz, hX.out.1.far (by simp; omega) _, hX.out.2.1.setCell (p := ⟨w.heap.size, 0, none⟩) (.inl (.inr rfl)) _⟩
end Go.Proofs.Ytedjfbkfaioihaa
