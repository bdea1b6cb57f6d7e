/- What the reference's Put answers: as the table's. Conditions: at most 1000 plans by rising names, a name of at most 10^6 bytes. -/
import Derived.Test.YtghklmhmhekjgaaAps
import Derived.Test.YtghklmhmhekjgaaRchk
import Derived.BigQuiet
namespace Go.Proofs.Ytghklmhmhekjgaa
open Go.RowKit

/-- The reference's table at P has just the plans L. -/
def Rt (w : World) (P base : Nat) (L : List Pl) : Prop := ∃ A m c, Arr w P 46 #[.slice A m c] ∧ w.ownsRow base 27 4 (.slice A m c) m (pvs L)
def RPPost (w : World) (P base : Nat) (p : Pl) (L : List Pl) (e : Ending) (w' : World) : Prop :=
  e = .returned (.int .i64 (putE p L)) ∧ Rt w' P base (putL p L) ∧ Kp (fun x => x = P) w w'
theorem Rt.kp {w w' : World} {P base : Nat} {L : List Pl} {S : Nat → Prop} (h : Rt w P base L) (k : Kp S w w') (h1 : ¬ S P) (h2 : ∀ x, base ≤ x → ¬ S x) : Rt w' P base L := by
  obtain ⟨A, m, c, ha, ho⟩ := h
  exact ⟨A, m, c, ha.kp k h1, own_kp ho k fun x hx => h2 x (ho.lt x hx).1⟩
theorem rpp_no {w w' : World} {P base : Nat} {p : Pl} {L : List Pl} (h : ¬ OkP p.n p.f p.t p.r) (hr : Rt w' P base L) (hk : Kp (fun x => x = P) w w') : RPPost w P base p L (.returned (.int .i64 30)) w' := by
  unfold RPPost putE putL; rw [if_neg h, if_neg h]; exact ⟨rfl, hr, hk⟩
theorem rpp_long {w w' : World} {P base : Nat} {p : Pl} {L : List Pl} (h : OkP p.n p.f p.t p.r) (h1 : hasp p.nm L = false) (h2 : 100 ≤ L.length) (hr : Rt w' P base L) (hk : Kp (fun x => x = P) w w') : RPPost w P base p L (.returned (.int .i64 2)) w' := by
  unfold RPPost putE putL; rw [if_pos h, if_pos h, if_pos ⟨h1, h2⟩, if_pos ⟨h1, h2⟩]; exact ⟨rfl, hr, hk⟩
theorem rpp_ok {w w' : World} {P base : Nat} {p : Pl} {L L' : List Pl} (h : OkP p.n p.f p.t p.r) (h1 : ¬ (hasp p.nm L = false ∧ 100 ≤ L.length)) (he : putp p L = L') (hr : Rt w' P base L') (hk : Kp (fun x => x = P) w w') : RPPost w P base p L (.returned (.int .i64 0)) w' := by
  unfold RPPost putE putL; rw [if_pos h, if_pos h, if_neg h1, if_neg h1, he]; exact ⟨rfl, hr, hk⟩

theorem cell_new4 (w : World) (p : Pl) : Pv (w.alloc (.cells #[.string p.n, .int .i64 p.f, .int .i64 p.t, .int .i64 p.r] 27)) (w.heap.size + 1) (some ⟨w.heap.size, 0, none⟩) 1 [p] := by
  refine ⟨rfl, fun _ => ⟨w.heap.size, 0, rfl, by omega, fun j u hu => ?_⟩⟩
  rw [Nat.zero_add]
  exact (Arr.new w 27 _).at_ (by simpa [pvs] using hu)
theorem succ_i64 {a k : Nat} (h : k = a + 1) (ha : a ≤ 1000) : IntKind.i64.wrap ((a : Int) + 1) = (k : Int) := by rw [IntKind.wrap_i64]; omega
theorem succ_w64 {a k : Nat} (h : k = a + 1) (ha : a ≤ 1000) : wrap64 ((a : Int) + 1) = (k : Int) := by unfold wrap64; omega
theorem succ_cast {a k : Nat} (h : k = a + 1) : (a : Int) + 1 = (k : Int) := by omega
theorem own_slice3 {w : World} {base n : Nat} {e : TypeId} {sz : Nat} {v : Value} {xs : List Value} (h : w.ownsRow base e sz v n xs) : ∃ A m c, v = .slice A m c ∧ w.ownsRow base e sz (.slice A m c) m xs := by
  obtain ⟨A, c, rfl⟩ := own_slice h
  exact ⟨A, n, c, rfl, h⟩
theorem own_adr {w : World} {base m c : Nat} {e : TypeId} {sz : Nat} {A : Option Addr} {xs : List Value} (h : w.ownsRow base e sz (.slice A m c) m xs) : (A = none ∧ m = 0 ∧ c = 0) ∨ ∃ g, A = some ⟨g, 0, none⟩ := by
  rcases h.2 with ⟨h0, h1⟩ | ⟨g, cap, cur, h0, _⟩
  · injection h0 with a b c
    exact .inl ⟨a, b, c⟩
  · injection h0 with a b c
    exact .inr ⟨g, a⟩
/-- The end: too many. -/
theorem fin_long {w w7 : World} {P base nq : Nat} {p : Pl} {L : List Pl} (hok : OkP p.n p.f p.t p.r) (h1 : hasp p.nm L = false) (h2 : 100 ≤ L.length) (_ : Rt w P base L) (_ : P < w.heap.size) (_ : base ≤ w.heap.size) (hk : Kp (fun x => x = P) w w7) (hR7 : Rt w7 P base L) :
    RPPost w P base p L (.returned (.int .i64 2)) (w7.drewN nq) :=
  rpp_long hok h1 h2 (hR7.kp (S := fun _ => False) ((Kp.refl _ _).drewN nq) (fun h => h) (fun _ _ h => h)) (hk.drewN nq)
/-- The end: put. -/
theorem fin_put {w w7 w9 : World} {P base b3 k m' nq : Nat} {p : Pl} {L pre rest : List Pl} {v7 v9 : Value} {cs : Array Value} (hok : OkP p.n p.f p.t p.r) (h1 : ¬ (hasp p.nm L = false ∧ 100 ≤ L.length)) (he : putp p L = pre ++ p :: rest)
    (hP : P < w.heap.size) (hb : base ≤ w.heap.size) (hb3 : w.heap.size ≤ b3) (hk : Kp (fun x => x = P) w w7) (hA : Arr w7 P 46 cs) (hc : cs.size = 1) (h7 : w7.ownsRow b3 27 4 v7 k (pvs (pre ++ [p]))) (h9 : w9.ownsRow b3 27 4 v9 m' (pvs (pre ++ [p]) ++ pvs rest)) (hg : (w7.drewN nq).grownBy w9 v7.ownBlock) :
    RPPost w P base p L (.returned (.int .i64 0)) (w9.setCell ⟨P, 0, none⟩ v9) := by
  obtain ⟨A9, c9, rfl⟩ := own_slice h9
  have hk9 : Kp (fun x => x = P) w w9 := (hk.drewN nq).grown hg (fun x hx e => by have := (h7.lt x e).1; omega)
  have hA9 : Arr w9 P 46 cs := Arr.grown (w := w7.drewN nq) hA hg (fun e => by have := (h7.lt P e).1; omega)
  refine rpp_ok hok h1 he ⟨A9, m', c9, ?_, ?_⟩ (hk9.setCell (p := ⟨P, 0, none⟩) (.inl rfl) _)
  · have := hA9.set 0 (.slice A9 m' c9)
    obtain ⟨cl⟩ := cs
    match cl, hc with
    | [_], _ => exact this
  · have h9' : w9.ownsRow base 27 4 (.slice A9 m' c9) m' (pvs (pre ++ p :: rest)) := by
      have := own_base h9 (Nat.le_trans hb hb3)
      rw [← pvs_append, List.append_assoc] at this
      exact this
    refine own_far h9' ?_ _
    intro e
    have := (h9.lt P e).1
    omega
set_option maxRecDepth 100000 in
set_option maxHeartbeats 4000000 in
theorem rput18 (P base : Nat) (n : ByteArray) (f t r : Int) (L : List Pl) (w : World) (hR : Rt w P base L) (hbase : base ≤ w.heap.size) (hs : n.size ≤ 1000000) (hL : L.length ≤ 1000) (hris : Ris L) :
    Calls Try.prog 18 #[.pointer (some ⟨P, 0, none⟩), .agg #[.string n, .int .i64 f, .int .i64 t, .int .i64 r]] w (RPPost w P base ⟨n, f, t, r⟩ L) := by
  obtain ⟨i0, hi, hz0, hz1, hz2⟩ := info_parts info27
  have hck := rcheck9 n f t r (w.alloc (.cells #[.string n, .int .i64 f, .int .i64 t, .int .i64 r] 27)) (by omega)
  unfold CPost at hck
  have hPw : P < w.heap.size := by obtain ⟨_, _, _, ha, _⟩ := hR; exact ha.lt
  have hk0 : Kp (fun x => x = P) w (w.alloc (.cells #[.string n, .int .i64 f, .int .i64 t, .int .i64 r] 27)) := (Kp.refl _ _).alloc _
  have hB0 : Arr (w.alloc (.cells #[.string n, .int .i64 f, .int .i64 t, .int .i64 r] 27)) w.heap.size 27 #[.string n, .int .i64 f, .int .i64 t, .int .i64 r] := Arr.new w 27 _
  have hs0 : (w.alloc (.cells #[.string n, .int .i64 f, .int .i64 t, .int .i64 r] 27)).heap.size = w.heap.size + 1 := by simp
  have HK0 := Lib.hid (And.intro hk0 (And.intro hB0 hs0))
  rcases chk_cases n f t r with ⟨hok, hce⟩ | ⟨hok, hce⟩
  · rw [hce] at hck
    have HOK := Lib.hid hok
    have HRIS := Lib.hid hris
    clear hk0 hB0 hs0 hce hok hris
    go_enter Try.func18, Try.ntmps18
    go_wp2_with fail
    refine hck.mono ?_
    rintro e w2 ⟨rfl, hb2⟩
    have hk2 : Kp (fun x => x = P) w w2 := HK0.out.1.trans (Kp.none_of_below (S := fun x => x = P) hb2) (fun _ _ h => h)
    have hB2 : Arr w2 w.heap.size 27 #[.string n, .int .i64 f, .int .i64 t, .int .i64 r] := HK0.out.2.1.below hb2 (by rw [HK0.out.2.2]; omega)
    have hR2 : Rt w2 P base L := hR.kp (S := fun _ => False) ⟨hk2.os, hk2.tape, hk2.output, hk2.size, fun x hx _ => by
      have h1 := hb2.block x (by rw [HK0.out.2.2]; omega)
      rw [h1]; exact Below.heap_alloc w _ x hx⟩ (fun h => h) (fun _ _ h => h)
    clear hck hb2
    have HK2 := Lib.hid hk2
    have hsz2 : w.heap.size + 1 ≤ w2.heap.size := hB2.lt
    clear hk2
    go_wp2_with fail
    obtain ⟨A, m, c, haP, hown⟩ := hR2
    obtain ⟨A', c', hAc, hpv, hmc, hcm⟩ := Pv.of_own hown
    injection hAc with e1 e2 e3
    subst e1; subst e3
    have HAD : Hid ((A = none ∧ m = 0 ∧ c = 0) ∨ ∃ g, A = some ⟨g, 0, none⟩) := own_adr hown
    have HOWN := Lib.hid (And.intro haP (And.intro hown hB2))
    have hLm := hpv.1
    have HLM := Lib.hid hLm
    have HR0 := Lib.hid hR
    clear e2 hown hLm hR haP hB2
    go_loopg [6] (m + 1) (fun g i wb => ∃ (pre post : List Pl) (q : Nat), i = .int .i64 pre.length ∧ Hid (pre ++ post = L) ∧ Hid (∀ y ∈ pre, bytesBefore y.nm n.data.toList = true) ∧ wb = w2.drewN q ∧ post.length + 1 ≤ g)
    case atStart => exact ⟨[], L, 0, rfl, Lib.hid rfl, Lib.hid (by simp), rfl, by rw [HLM.out]; exact Nat.le_refl _⟩
    case round =>
      obtain ⟨pre, post, q, rfl, hpm, hpre, rfl, hgk⟩ := hrel
      obtain ⟨w1, hw1⟩ : ∃ w1, w1 = w2.drewN q := ⟨_, rfl⟩
      have hpv1 : Pv w1 w2.heap.size A m (pre ++ post) := by rw [hw1, hpm.out]; exact hpv.drewN q
      have haP1 : Arr w1 P 46 #[.slice A m c] := by rw [hw1]; exact HOWN.out.1
      have hB1 : Arr w1 w.heap.size 27 #[.string n, .int .i64 f, .int .i64 t, .int .i64 r] := by rw [hw1]; exact HOWN.out.2.2
      have cP := haP1.at_ (i := 0) (v := .slice A m c) rfl
      have b0 := hB1.at_ (i := 0) (v := .string n) rfl
      have b1 := hB1.at_ (i := 1) (v := .int .i64 f) rfl
      have b2 := hB1.at_ (i := 2) (v := .int .i64 t) rfl
      have b3 := hB1.at_ (i := 3) (v := .int .i64 r) rfl
      have HW1 := Lib.hid hw1
      have hplm : pre.length + post.length = m := by rw [← HLM.out, ← hpm.out]; simp
      have HA1 := Lib.hid (And.intro haP1 hB1)
      rw [← hw1]
      clear hw1 haP1 hB1
      have HPV := Lib.hid hpv1.pre
      have hple : pre.length ≤ m := by omega
      have hm1000 : m ≤ 1000 := by rw [← HLM.out]; exact hL
      have z0 : (0 : Int) ≤ (pre.length : Int) := by omega
      have z1 : (pre.length : Int) ≤ (c : Int) := by omega
      have z2 : pre.length ≤ c := by omega
      cases post with
      | nil =>
        have hpk : pre.length = m := by simpa using hplm
        have e1 : decide (pre.length < m) = false := decide_eq_false (by omega)
        have e1' : decide ((pre.length : Int) < (m : Int)) = false := decide_eq_false (by omega)
        have HPK := Lib.hid hpk
        have HNEW : Hid (hasp n.data.toList L = false ∧ putp ⟨n, f, t, r⟩ L = pre ++ ⟨n, f, t, r⟩ :: []) := by
          have := put_new (p := ⟨n, f, t, r⟩) (A := pre) (B := []) hpre.out (by simp)
          rw [hpm.out] at this
          exact this
        have hrest : (([] : List Pl)) = [] := rfl
        clear hrest hpk hpv hpv1 hplm
        go_wp2_with fail
        go_quiet (fail)
        go_wp2_with fail
        obtain ⟨w3, hw3⟩ : ∃ w3, w3 = w1.drewN nq := ⟨_, rfl⟩
        rw [← hw3]
        have cP3 : w3.cell? ⟨P, 0, none⟩ = some (.slice A m c) := by rw [hw3]; exact cP
        have b03 : w3.cell? ⟨w.heap.size, 0, none⟩ = some (.string n) := by rw [hw3]; exact b0
        have b13 : w3.cell? ⟨w.heap.size, 1, none⟩ = some (.int .i64 f) := by rw [hw3]; exact b1
        have b23 : w3.cell? ⟨w.heap.size, 2, none⟩ = some (.int .i64 t) := by rw [hw3]; exact b2
        have b33 : w3.cell? ⟨w.heap.size, 3, none⟩ = some (.int .i64 r) := by rw [hw3]; exact b3
        have HPV3 := Lib.hid (show Pv w3 w2.heap.size A pre.length pre by rw [hw3]; exact HPV.out.drewN nq)
        have hs3 : w3.heap.size = w2.heap.size := by rw [hw3, HW1.out]; rfl
        have HS3 := Lib.hid (And.intro hs3 hw3)
        have h23 : w2.heap.size ≤ w3.heap.size := by omega
        have hP3 : P < w3.heap.size := by omega
        have hB3 : w.heap.size < w3.heap.size := by omega
        have hA2 : 0 + pre.length ≤ maxLen := by unfold maxLen; have := HLM.out; omega
        have hA3 : (0 + pre.length) * 40 ≤ 140737488355328 := by have := HLM.out; omega
        have hA4 : 0 + pre.length + 1 ≤ maxLen := by unfold maxLen; have := HLM.out; omega
        have hA5 : (0 + pre.length + 1) * 40 ≤ 140737488355328 := by have := HLM.out; omega
        have nP : ∀ X : Obj, (w3.alloc X).cell? ⟨P, 0, none⟩ = some (.slice A m c) := fun X => (World.cell?_alloc_lt w3 X ⟨P, 0, none⟩ hP3).trans cP3
        have n0 : ∀ X : Obj, (w3.alloc X).cell? ⟨w.heap.size, 0, none⟩ = some (.string n) := fun X => (World.cell?_alloc_lt w3 X ⟨w.heap.size, 0, none⟩ hB3).trans b03
        have n1 : ∀ X : Obj, (w3.alloc X).cell? ⟨w.heap.size, 1, none⟩ = some (.int .i64 f) := fun X => (World.cell?_alloc_lt w3 X ⟨w.heap.size, 1, none⟩ hB3).trans b13
        have n2 : ∀ X : Obj, (w3.alloc X).cell? ⟨w.heap.size, 2, none⟩ = some (.int .i64 t) := fun X => (World.cell?_alloc_lt w3 X ⟨w.heap.size, 2, none⟩ hB3).trans b23
        have n3 : ∀ X : Obj, (w3.alloc X).cell? ⟨w.heap.size, 3, none⟩ = some (.int .i64 r) := fun X => (World.cell?_alloc_lt w3 X ⟨w.heap.size, 3, none⟩ hB3).trans b33
        clear hs3 hw3
        go_region_held3 (fun w' => w'.cell? ⟨P, 0, none⟩ = some (.slice A m c) ∧ w'.cell? ⟨w.heap.size, 0, none⟩ = some (.string n) ∧ w'.cell? ⟨w.heap.size, 1, none⟩ = some (.int .i64 f) ∧ w'.cell? ⟨w.heap.size, 2, none⟩ = some (.int .i64 t) ∧ w'.cell? ⟨w.heap.size, 3, none⟩ = some (.int .i64 r)) (first | go_keep | exact ⟨nP _, n0 _, n1 _, n2 _, n3 _⟩ | exact ⟨sP, s0, s1, s2, s3⟩ | exact ⟨mP _, m0 _, m1 _, m2 _, m3 _⟩ | exact ⟨tP, t0, t1, t2, t3⟩) (first | (refine step_append_pv (by rfl) (.const (.slice none 0 0)) (.tmp 40) 22 (by rfl) w3.heap.size 27 i0 _ 40 Try.underlying22 hi hz0 hz1 hz2 (by rfl) (.slice none 0 0) 0 [] (by rfl) (World.ownsRow_nil _ _ _ _) A pre.length c w2.heap.size pre (by rfl) (by first | exact HPV3.out | exact HPV3.out.drewN 1) hA2 hA3 (Nat.le_refl _) ?_; intro v6 w6 hown6 hg6 hat6; have hb6 : Below w3.heap.size w3 w6 := (by first | exact (Below.refl _ w3).grown hg6 (Nat.le_refl _) (fun k hk => by cases hk) | exact (Below.refl _ w3).drew.grown hg6 (Nat.le_refl _) (fun k hk => by cases hk)); have hs6 := hb6.size; have sP := (hb6.cell (p := ⟨P, 0, none⟩) (by simp; omega)).trans cP3; have s0 := (hb6.cell (p := ⟨w.heap.size, 0, none⟩) (by simp; omega)).trans b03; have s1 := (hb6.cell (p := ⟨w.heap.size, 1, none⟩) (by simp; omega)).trans b13; have s2 := (hb6.cell (p := ⟨w.heap.size, 2, none⟩) (by simp; omega)).trans b23; have s3 := (hb6.cell (p := ⟨w.heap.size, 3, none⟩) (by simp; omega)).trans b33; have mP := (fun X : Obj => (World.cell?_alloc_lt w6 X ⟨P, 0, none⟩ (by simp; omega)).trans sP); have m0 := (fun X : Obj => (World.cell?_alloc_lt w6 X ⟨w.heap.size, 0, none⟩ (by simp; omega)).trans s0); have m1 := (fun X : Obj => (World.cell?_alloc_lt w6 X ⟨w.heap.size, 1, none⟩ (by simp; omega)).trans s1); have m2 := (fun X : Obj => (World.cell?_alloc_lt w6 X ⟨w.heap.size, 2, none⟩ (by simp; omega)).trans s2); have m3 := (fun X : Obj => (World.cell?_alloc_lt w6 X ⟨w.heap.size, 3, none⟩ (by simp; omega)).trans s3)) | (refine step_append_pv (by rfl) (.const (.slice none 0 0)) (.tmp 40) 22 (by rfl) w3.heap.size 27 i0 _ 40 Try.underlying22 hi hz0 hz1 hz2 (by rfl) (.slice none 0 0) 0 [] (by rfl) (World.ownsRow_nil _ _ _ _) A pre.length c w2.heap.size pre (by rfl) (by first | exact (HPV3.out.below ((Below.refl _ w3).alloc h23 _)) | exact (HPV3.out.below ((Below.refl _ w3).alloc h23 _).drew)) hA2 hA3 (by simp) ?_; intro v6 w6 hown6 hg6 hat6; have hb6 : Below w3.heap.size w3 w6 := (by first | exact ((Below.refl _ w3).alloc (Nat.le_refl _) _).grown hg6 (by simp) (fun k hk => by cases hk) | exact ((Below.refl _ w3).alloc (Nat.le_refl _) _).drew.grown hg6 (by simp) (fun k hk => by cases hk)); have hpn6 := (cell_new4 w3 ⟨n, f, t, r⟩).keep (w' := w6) (fun x hx => hg6.block x (by simpa using hx) (fun h => by cases h)); have hs6 := hb6.size; have sP := (hb6.cell (p := ⟨P, 0, none⟩) (by simp; omega)).trans cP3; have s0 := (hb6.cell (p := ⟨w.heap.size, 0, none⟩) (by simp; omega)).trans b03; have s1 := (hb6.cell (p := ⟨w.heap.size, 1, none⟩) (by simp; omega)).trans b13; have s2 := (hb6.cell (p := ⟨w.heap.size, 2, none⟩) (by simp; omega)).trans b23; have s3 := (hb6.cell (p := ⟨w.heap.size, 3, none⟩) (by simp; omega)).trans b33; have mP := (fun X : Obj => (World.cell?_alloc_lt w6 X ⟨P, 0, none⟩ (by simp; omega)).trans sP); have m0 := (fun X : Obj => (World.cell?_alloc_lt w6 X ⟨w.heap.size, 0, none⟩ (by simp; omega)).trans s0); have m1 := (fun X : Obj => (World.cell?_alloc_lt w6 X ⟨w.heap.size, 1, none⟩ (by simp; omega)).trans s1); have m2 := (fun X : Obj => (World.cell?_alloc_lt w6 X ⟨w.heap.size, 2, none⟩ (by simp; omega)).trans s2); have m3 := (fun X : Obj => (World.cell?_alloc_lt w6 X ⟨w.heap.size, 3, none⟩ (by simp; omega)).trans s3)) | (refine step_append_pv (by rfl) (.tmp 41) (.tmp 43) 22 (by rfl) w3.heap.size 27 i0 _ 40 Try.underlying22 hi hz0 hz1 hz2 (by rfl) v6 (0 + pre.length) ([] ++ pvs pre) (by rfl) (hown6.alloc _) (some ⟨w6.heap.size, 0, none⟩) 1 1 (w6.heap.size + 1) [⟨n, f, t, r⟩] (by rfl) (cell_new4 w6 ⟨n, f, t, r⟩) hA4 hA5 (by simp; omega) ?_; intro v7 w7 hown7 hg7 hat7; have hb7 : Below w3.heap.size w3 w7 := (by first | exact (hb6.alloc hs6 _).grown hg7 (by simp; omega) (fun k hk => (hown6.lt k hk).1) | exact (hb6.alloc hs6 _).drew.grown hg7 (by simp; omega) (fun k hk => (hown6.lt k hk).1)); have tP := (hb7.cell (p := ⟨P, 0, none⟩) (by simp; omega)).trans cP3; have t0 := (hb7.cell (p := ⟨w.heap.size, 0, none⟩) (by simp; omega)).trans b03; have t1 := (hb7.cell (p := ⟨w.heap.size, 1, none⟩) (by simp; omega)).trans b13; have t2 := (hb7.cell (p := ⟨w.heap.size, 2, none⟩) (by simp; omega)).trans b23; have t3 := (hb7.cell (p := ⟨w.heap.size, 3, none⟩) (by simp; omega)).trans b33) | (refine step_append_pv (by rfl) (.tmp 41) (.tmp 43) 22 (by rfl) w3.heap.size 27 i0 _ 40 Try.underlying22 hi hz0 hz1 hz2 (by rfl) v6 (0 + pre.length) ([] ++ pvs pre) (by rfl) hown6 (some ⟨w3.heap.size, 0, none⟩) 1 1 (w3.heap.size + 1) [⟨n, f, t, r⟩] (by rfl) hpn6 hA4 hA5 hs6 ?_; intro v7 w7 hown7 hg7 hat7; have hb7 : Below w3.heap.size w3 w7 := hb6.grown hg7 hs6 (fun k hk => (hown6.lt k hk).1); have tP := (hb7.cell (p := ⟨P, 0, none⟩) (by simp; omega)).trans cP3; have t0 := (hb7.cell (p := ⟨w.heap.size, 0, none⟩) (by simp; omega)).trans b03; have t1 := (hb7.cell (p := ⟨w.heap.size, 1, none⟩) (by simp; omega)).trans b13; have t2 := (hb7.cell (p := ⟨w.heap.size, 2, none⟩) (by simp; omega)).trans b23; have t3 := (hb7.cell (p := ⟨w.heap.size, 3, none⟩) (by simp; omega)).trans b33) | fail)
        all_goals
          have hk7 : Kp (fun x => x = P) w w7 := ((HK2.out.trans (show Kp (fun x => x = P) w2 w3 by rw [HS3.out.2, HW1.out]; exact ((Kp.refl _ _).drewN _).drewN _) (fun _ _ h => h))).trans (Kp.none_of_below (S := fun x => x = P) hb7) (fun _ _ h => h)
          have HK7 := Lib.hid hk7
          have HB7 := Lib.hid hb7
          have haP7 : Arr w7 P 46 #[.slice A m c] := (show Arr w3 P 46 #[.slice A m c] by rw [HS3.out.2]; exact HA1.out.1).below hb7 hP3
          have HP7 := Lib.hid haP7
          have HR7 : Hid (Rt w7 P base L) := ⟨A, m, c, haP7, own_kp (own_kp HOWN.out.2.1 (show Kp (fun _ => False) w2 w3 by rw [HS3.out.2, HW1.out]; exact ((Kp.refl _ _).drewN _).drewN _) (fun _ _ h => h)) (Kp.none_of_below (S := fun _ => False) hb7) (fun _ _ h => h)⟩
          have HO7 := Lib.hid hown7
          clear hk7 hb7 haP7 hown7 hg7 hat7 hg6 hat6 hown6 hb6
          have hpm7 : pre.length = m := HPK.out
          go_wp2_with fail
          go_quiet (fail)
          by_cases h100 : 100 ≤ m
          · have D100 : decide ((100 : Int) ≤ (m : Int)) = true := decide_eq_true (by omega)
            go_wp2_with fail
            go_ret
            exact fin_long (p := ⟨n, f, t, r⟩) HOK.out HNEW.out.1 (by rw [HLM.out]; exact h100) HR0.out hPw hbase HK7.out HR7.out
          · have D100 : decide ((100 : Int) ≤ (m : Int)) = false := decide_eq_false (by omega)
            have HN : Hid (¬ (hasp n.data.toList L = false ∧ 100 ≤ L.length)) := fun h => h100 (by rw [← HLM.out]; exact h.2)
            rcases HAD.out with ⟨hA0, hm0, hc0⟩ | ⟨g, hAg⟩
            · clear HAD
              subst hA0; subst hm0; subst hc0
              have hp0 : pre.length = 0 := by omega
              have hbz : w3.heap.size ≤ w7.heap.size := HB7.out.size
              go_wp2_with (at_builtin; refine wpList_append_pv rfl (.tmp 74) (.tmp 80) 22 rfl w3.heap.size 27 i0 _ 40 Try.underlying22 hi hz0 hz1 hz2 rfl _ (0 + pre.length + 1) _ rfl HO7.out _ _ _ w2.heap.size ([]) rfl (Pv.any0 (by omega) _ _ _) (by unfold maxLen; omega) (by omega) (by simp; omega) ?_; intro v9 w9 hown9 hg9 hat9; obtain ⟨A9, m9, c9, rfl, hown9⟩ := own_slice3 hown9; have hP9 := (Arr.grown (w := w7.drewN nq) HP7.out hg9 (fun e => by have := (HO7.out.lt P e).1; omega)); have q0 := hP9.frozen 0; have q1 := hP9.at_ (i := 0) rfl; have HF := Lib.hid (fin_put (p := ⟨n, f, t, r⟩) HOK.out HN.out HNEW.out.2 hPw hbase (show w.heap.size ≤ w3.heap.size by omega) HK7.out HP7.out rfl (by have := HO7.out; rw [List.nil_append, ← pvs_append] at this; exact this) (by have := hown9; rw [List.nil_append, ← pvs_append] at this; exact this) hg9); clear hown9 hg9 hat9 hP9)
              go_ret
              exact HF.out
            · clear HAD
              subst hAg
              by_cases hcj : c = pre.length
              · have hbz : w3.heap.size ≤ w7.heap.size := HB7.out.size
                go_wp2_with (at_builtin; refine wpList_append_pv rfl (.tmp 74) (.tmp 80) 22 rfl w3.heap.size 27 i0 _ 40 Try.underlying22 hi hz0 hz1 hz2 rfl _ (0 + pre.length + 1) _ rfl HO7.out _ _ _ w2.heap.size ([]) rfl (Pv.any0 (by omega) _ _ _) (by unfold maxLen; omega) (by omega) (by simp; omega) ?_; intro v9 w9 hown9 hg9 hat9; obtain ⟨A9, m9, c9, rfl, hown9⟩ := own_slice3 hown9; have hP9 := (Arr.grown (w := w7.drewN nq) HP7.out hg9 (fun e => by have := (HO7.out.lt P e).1; omega)); have q0 := hP9.frozen 0; have q1 := hP9.at_ (i := 0) rfl; have HF := Lib.hid (fin_put (p := ⟨n, f, t, r⟩) HOK.out HN.out HNEW.out.2 hPw hbase (show w.heap.size ≤ w3.heap.size by omega) HK7.out HP7.out rfl (by have := HO7.out; rw [List.nil_append, ← pvs_append] at this; exact this) (by have := hown9; rw [List.nil_append, ← pvs_append] at this; exact this) hg9); clear hown9 hg9 hat9 hP9)
                go_ret
                exact HF.out
              · have hbz : w3.heap.size ≤ w7.heap.size := HB7.out.size
                go_wp2_with (at_builtin; refine wpList_append_pv rfl (.tmp 74) (.tmp 80) 22 rfl w3.heap.size 27 i0 _ 40 Try.underlying22 hi hz0 hz1 hz2 rfl _ (0 + pre.length + 1) _ rfl HO7.out _ _ _ w2.heap.size ([]) rfl (Pv.any0 (by omega) _ _ _) (by unfold maxLen; omega) (by omega) (by simp; omega) ?_; intro v9 w9 hown9 hg9 hat9; obtain ⟨A9, m9, c9, rfl, hown9⟩ := own_slice3 hown9; have hP9 := (Arr.grown (w := w7.drewN nq) HP7.out hg9 (fun e => by have := (HO7.out.lt P e).1; omega)); have q0 := hP9.frozen 0; have q1 := hP9.at_ (i := 0) rfl; have HF := Lib.hid (fin_put (p := ⟨n, f, t, r⟩) HOK.out HN.out HNEW.out.2 hPw hbase (show w.heap.size ≤ w3.heap.size by omega) HK7.out HP7.out rfl (by have := HO7.out; rw [List.nil_append, ← pvs_append] at this; exact this) (by have := hown9; rw [List.nil_append, ← pvs_append] at this; exact this) hg9); clear hown9 hg9 hat9 hP9)
                go_ret
                exact HF.out
      | cons y post =>
        have hplm2 : pre.length + (post.length + 1) = m := by simpa using hplm
        obtain ⟨yn, yf, yt, yr⟩ := y
        obtain ⟨b4, off4, rfl, hb4, hc4⟩ := hpv1.at4 (k := pre.length) (by omega)
        obtain ⟨y0, _⟩ := hc4 pre.length ⟨yn, yf, yt, yr⟩ (by rw [List.getElem?_append_right (Nat.le_refl _)]; simp)
        have e1 : decide (pre.length < m) = true := decide_eq_true (by omega)
        have e1' : decide ((pre.length : Int) < (m : Int)) = true := decide_eq_true (by omega)
        have e2 : (pre.length : Int) < (m : Int) := by omega
        have e3 : pre.length < m := by omega
        have hpost : ∀ z ∈ post, bytesBefore yn.data.toList z.nm = true := by
          have h := HRIS.out
          rw [← hpm.out] at h
          exact fun z hz => (List.pairwise_cons.1 (List.pairwise_append.1 h).2.1).1 z hz
        have HPO := Lib.hid hpost
        have HLQ : Hid (Pv w1 w2.heap.size (some ⟨b4, off4 + pre.length * 4, none⟩) (m - pre.length) (⟨yn, yf, yt, yr⟩ :: post)) := by
          have h := hpv1.post
          rw [show (⟨yn, yf, yt, yr⟩ :: post : List Pl).length = m - pre.length by simp; omega] at h
          exact h
        obtain ⟨k1, hk1⟩ : ∃ k1, k1 = pre.length + 1 := ⟨_, rfl⟩
        have HLQ2 : Hid (Pv w1 w2.heap.size (some ⟨b4, off4 + k1 * 4, none⟩) (m - k1) post) := by
          have h0 : Pv w1 w2.heap.size (some ⟨b4, off4, none⟩) m ((pre ++ [⟨yn, yf, yt, yr⟩]) ++ post) := by rw [List.append_assoc]; exact hpv1
          have h := h0.post
          rw [show (pre ++ [(⟨yn, yf, yt, yr⟩ : Pl)]).length = k1 by simp [hk1], show post.length = m - k1 by omega] at h
          exact h
        have HK1 := Lib.hid hk1
        have HPL := Lib.hid hplm2
        have HGK := Lib.hid hgk
        have hcj : ¬ c = pre.length := by omega
        clear hplm hplm2 hpost hpv hpv1 hc4 hgk HAD hk1
        rcases bb_tri yn.data.toList n.data.toList with h | h | h
        · have hl : Op.bytesLess yn.toList n.toList = true := by rw [less_bb, ByteArray.toList_eq, ByteArray.toList_eq]; exact h
          have HL := Lib.hid h
          clear h
          go_wp2_with fail
          go_quiet (fail)
          go_wp2_with fail
          go_roundg (post.length + 1)
          case measure => have := HGK.out; simp at this; omega
          case rel => exact ⟨pre ++ [⟨yn, yf, yt, yr⟩], post, _, by rw [List.length_append]; go_num, Lib.hid (by rw [List.append_assoc]; exact hpm.out), Lib.hid (fun z hz => by rcases List.mem_append.1 hz with hz | hz; exact hpre.out z hz; simp at hz; rw [hz]; exact HL.out), by rw [HW1.out]; exact World.drewN_drewN _ _ _, Nat.le_refl _⟩
        · have hyn : n = yn := (nm_inj (p := ⟨yn, 0, 0, 0⟩) (q := ⟨n, 0, 0, 0⟩) (by rw [nm_toList, nm_toList]; exact h)).symm
          subst hyn
          have hl : Op.bytesLess n.toList n.toList = false := by rw [less_bb]; exact bb_irrefl _
          have hee : (n.toList == n.toList) = true := by simp
          have HNEW : Hid (hasp n.data.toList L = true ∧ putp ⟨n, f, t, r⟩ L = pre ++ ⟨n, f, t, r⟩ :: post) := by
            have := put_old (p := ⟨n, f, t, r⟩) (y := ⟨n, yf, yt, yr⟩) (A := pre) (B := post) hpre.out rfl HPO.out
            rw [hpm.out] at this
            exact this
          have HN : Hid (¬ (hasp n.data.toList L = false ∧ 100 ≤ L.length)) := fun h => by have := h.1; rw [HNEW.out.1] at this; cases this
          clear h
          go_wp2_with fail
          go_quiet (fail)
          go_wp2_with fail
          obtain ⟨w3, hw3⟩ : ∃ w3, w3 = w1.drewN nq := ⟨_, rfl⟩
          rw [← hw3]
          have cP3 : w3.cell? ⟨P, 0, none⟩ = some (.slice (some ⟨b4, off4, none⟩) m c) := by rw [hw3]; exact cP
          have b03 : w3.cell? ⟨w.heap.size, 0, none⟩ = some (.string n) := by rw [hw3]; exact b0
          have b13 : w3.cell? ⟨w.heap.size, 1, none⟩ = some (.int .i64 f) := by rw [hw3]; exact b1
          have b23 : w3.cell? ⟨w.heap.size, 2, none⟩ = some (.int .i64 t) := by rw [hw3]; exact b2
          have b33 : w3.cell? ⟨w.heap.size, 3, none⟩ = some (.int .i64 r) := by rw [hw3]; exact b3
          have HPV3 := Lib.hid (show Pv w3 w2.heap.size (some ⟨b4, off4, none⟩) pre.length pre by rw [hw3]; exact HPV.out.drewN nq)
          have hs3 : w3.heap.size = w2.heap.size := by rw [hw3, HW1.out]; rfl
          have HS3 := Lib.hid (And.intro hs3 hw3)
          have h23 : w2.heap.size ≤ w3.heap.size := by omega
          have hP3 : P < w3.heap.size := by omega
          have hB3 : w.heap.size < w3.heap.size := by omega
          have hA2 : 0 + pre.length ≤ maxLen := by unfold maxLen; have := HLM.out; omega
          have hA3 : (0 + pre.length) * 40 ≤ 140737488355328 := by have := HLM.out; omega
          have hA4 : 0 + pre.length + 1 ≤ maxLen := by unfold maxLen; have := HLM.out; omega
          have hA5 : (0 + pre.length + 1) * 40 ≤ 140737488355328 := by have := HLM.out; omega
          have nP : ∀ X : Obj, (w3.alloc X).cell? ⟨P, 0, none⟩ = some (.slice (some ⟨b4, off4, none⟩) m c) := fun X => (World.cell?_alloc_lt w3 X ⟨P, 0, none⟩ hP3).trans cP3
          have n0 : ∀ X : Obj, (w3.alloc X).cell? ⟨w.heap.size, 0, none⟩ = some (.string n) := fun X => (World.cell?_alloc_lt w3 X ⟨w.heap.size, 0, none⟩ hB3).trans b03
          have n1 : ∀ X : Obj, (w3.alloc X).cell? ⟨w.heap.size, 1, none⟩ = some (.int .i64 f) := fun X => (World.cell?_alloc_lt w3 X ⟨w.heap.size, 1, none⟩ hB3).trans b13
          have n2 : ∀ X : Obj, (w3.alloc X).cell? ⟨w.heap.size, 2, none⟩ = some (.int .i64 t) := fun X => (World.cell?_alloc_lt w3 X ⟨w.heap.size, 2, none⟩ hB3).trans b23
          have n3 : ∀ X : Obj, (w3.alloc X).cell? ⟨w.heap.size, 3, none⟩ = some (.int .i64 r) := fun X => (World.cell?_alloc_lt w3 X ⟨w.heap.size, 3, none⟩ hB3).trans b33
          clear hs3 hw3
          go_region_held3 (fun w' => w'.cell? ⟨P, 0, none⟩ = some (.slice (some ⟨b4, off4, none⟩) m c) ∧ w'.cell? ⟨w.heap.size, 0, none⟩ = some (.string n) ∧ w'.cell? ⟨w.heap.size, 1, none⟩ = some (.int .i64 f) ∧ w'.cell? ⟨w.heap.size, 2, none⟩ = some (.int .i64 t) ∧ w'.cell? ⟨w.heap.size, 3, none⟩ = some (.int .i64 r)) (first | go_keep | exact ⟨nP _, n0 _, n1 _, n2 _, n3 _⟩ | exact ⟨sP, s0, s1, s2, s3⟩ | exact ⟨mP _, m0 _, m1 _, m2 _, m3 _⟩ | exact ⟨tP, t0, t1, t2, t3⟩) (first | (refine step_append_pv (by rfl) (.const (.slice none 0 0)) (.tmp 40) 22 (by rfl) w3.heap.size 27 i0 _ 40 Try.underlying22 hi hz0 hz1 hz2 (by rfl) (.slice none 0 0) 0 [] (by rfl) (World.ownsRow_nil _ _ _ _) (some ⟨b4, off4, none⟩) pre.length c w2.heap.size pre (by rfl) (by first | exact HPV3.out | exact HPV3.out.drewN 1) hA2 hA3 (Nat.le_refl _) ?_; intro v6 w6 hown6 hg6 hat6; have hb6 : Below w3.heap.size w3 w6 := (by first | exact (Below.refl _ w3).grown hg6 (Nat.le_refl _) (fun k hk => by cases hk) | exact (Below.refl _ w3).drew.grown hg6 (Nat.le_refl _) (fun k hk => by cases hk)); have hs6 := hb6.size; have sP := (hb6.cell (p := ⟨P, 0, none⟩) (by simp; omega)).trans cP3; have s0 := (hb6.cell (p := ⟨w.heap.size, 0, none⟩) (by simp; omega)).trans b03; have s1 := (hb6.cell (p := ⟨w.heap.size, 1, none⟩) (by simp; omega)).trans b13; have s2 := (hb6.cell (p := ⟨w.heap.size, 2, none⟩) (by simp; omega)).trans b23; have s3 := (hb6.cell (p := ⟨w.heap.size, 3, none⟩) (by simp; omega)).trans b33; have mP := (fun X : Obj => (World.cell?_alloc_lt w6 X ⟨P, 0, none⟩ (by simp; omega)).trans sP); have m0 := (fun X : Obj => (World.cell?_alloc_lt w6 X ⟨w.heap.size, 0, none⟩ (by simp; omega)).trans s0); have m1 := (fun X : Obj => (World.cell?_alloc_lt w6 X ⟨w.heap.size, 1, none⟩ (by simp; omega)).trans s1); have m2 := (fun X : Obj => (World.cell?_alloc_lt w6 X ⟨w.heap.size, 2, none⟩ (by simp; omega)).trans s2); have m3 := (fun X : Obj => (World.cell?_alloc_lt w6 X ⟨w.heap.size, 3, none⟩ (by simp; omega)).trans s3)) | (refine step_append_pv (by rfl) (.const (.slice none 0 0)) (.tmp 40) 22 (by rfl) w3.heap.size 27 i0 _ 40 Try.underlying22 hi hz0 hz1 hz2 (by rfl) (.slice none 0 0) 0 [] (by rfl) (World.ownsRow_nil _ _ _ _) (some ⟨b4, off4, none⟩) pre.length c w2.heap.size pre (by rfl) (by first | exact (HPV3.out.below ((Below.refl _ w3).alloc h23 _)) | exact (HPV3.out.below ((Below.refl _ w3).alloc h23 _).drew)) hA2 hA3 (by simp) ?_; intro v6 w6 hown6 hg6 hat6; have hb6 : Below w3.heap.size w3 w6 := (by first | exact ((Below.refl _ w3).alloc (Nat.le_refl _) _).grown hg6 (by simp) (fun k hk => by cases hk) | exact ((Below.refl _ w3).alloc (Nat.le_refl _) _).drew.grown hg6 (by simp) (fun k hk => by cases hk)); have hpn6 := (cell_new4 w3 ⟨n, f, t, r⟩).keep (w' := w6) (fun x hx => hg6.block x (by simpa using hx) (fun h => by cases h)); have hs6 := hb6.size; have sP := (hb6.cell (p := ⟨P, 0, none⟩) (by simp; omega)).trans cP3; have s0 := (hb6.cell (p := ⟨w.heap.size, 0, none⟩) (by simp; omega)).trans b03; have s1 := (hb6.cell (p := ⟨w.heap.size, 1, none⟩) (by simp; omega)).trans b13; have s2 := (hb6.cell (p := ⟨w.heap.size, 2, none⟩) (by simp; omega)).trans b23; have s3 := (hb6.cell (p := ⟨w.heap.size, 3, none⟩) (by simp; omega)).trans b33; have mP := (fun X : Obj => (World.cell?_alloc_lt w6 X ⟨P, 0, none⟩ (by simp; omega)).trans sP); have m0 := (fun X : Obj => (World.cell?_alloc_lt w6 X ⟨w.heap.size, 0, none⟩ (by simp; omega)).trans s0); have m1 := (fun X : Obj => (World.cell?_alloc_lt w6 X ⟨w.heap.size, 1, none⟩ (by simp; omega)).trans s1); have m2 := (fun X : Obj => (World.cell?_alloc_lt w6 X ⟨w.heap.size, 2, none⟩ (by simp; omega)).trans s2); have m3 := (fun X : Obj => (World.cell?_alloc_lt w6 X ⟨w.heap.size, 3, none⟩ (by simp; omega)).trans s3)) | (refine step_append_pv (by rfl) (.tmp 41) (.tmp 43) 22 (by rfl) w3.heap.size 27 i0 _ 40 Try.underlying22 hi hz0 hz1 hz2 (by rfl) v6 (0 + pre.length) ([] ++ pvs pre) (by rfl) (hown6.alloc _) (some ⟨w6.heap.size, 0, none⟩) 1 1 (w6.heap.size + 1) [⟨n, f, t, r⟩] (by rfl) (cell_new4 w6 ⟨n, f, t, r⟩) hA4 hA5 (by simp; omega) ?_; intro v7 w7 hown7 hg7 hat7; have hb7 : Below w3.heap.size w3 w7 := (by first | exact (hb6.alloc hs6 _).grown hg7 (by simp; omega) (fun k hk => (hown6.lt k hk).1) | exact (hb6.alloc hs6 _).drew.grown hg7 (by simp; omega) (fun k hk => (hown6.lt k hk).1)); have tP := (hb7.cell (p := ⟨P, 0, none⟩) (by simp; omega)).trans cP3; have t0 := (hb7.cell (p := ⟨w.heap.size, 0, none⟩) (by simp; omega)).trans b03; have t1 := (hb7.cell (p := ⟨w.heap.size, 1, none⟩) (by simp; omega)).trans b13; have t2 := (hb7.cell (p := ⟨w.heap.size, 2, none⟩) (by simp; omega)).trans b23; have t3 := (hb7.cell (p := ⟨w.heap.size, 3, none⟩) (by simp; omega)).trans b33) | (refine step_append_pv (by rfl) (.tmp 41) (.tmp 43) 22 (by rfl) w3.heap.size 27 i0 _ 40 Try.underlying22 hi hz0 hz1 hz2 (by rfl) v6 (0 + pre.length) ([] ++ pvs pre) (by rfl) hown6 (some ⟨w3.heap.size, 0, none⟩) 1 1 (w3.heap.size + 1) [⟨n, f, t, r⟩] (by rfl) hpn6 hA4 hA5 hs6 ?_; intro v7 w7 hown7 hg7 hat7; have hb7 : Below w3.heap.size w3 w7 := hb6.grown hg7 hs6 (fun k hk => (hown6.lt k hk).1); have tP := (hb7.cell (p := ⟨P, 0, none⟩) (by simp; omega)).trans cP3; have t0 := (hb7.cell (p := ⟨w.heap.size, 0, none⟩) (by simp; omega)).trans b03; have t1 := (hb7.cell (p := ⟨w.heap.size, 1, none⟩) (by simp; omega)).trans b13; have t2 := (hb7.cell (p := ⟨w.heap.size, 2, none⟩) (by simp; omega)).trans b23; have t3 := (hb7.cell (p := ⟨w.heap.size, 3, none⟩) (by simp; omega)).trans b33) | fail)
          all_goals
            have y07 : w7.cell? ⟨b4, off4 + pre.length * 4, none⟩ = some (.string n) := (hb7.cell (p := ⟨b4, off4 + pre.length * 4, none⟩) (by show b4 < w3.heap.size; omega)).trans (by rw [HS3.out.2]; exact y0)
            have hrest : Pv w7 w2.heap.size (some ⟨b4, off4 + k1 * 4, none⟩) (m - k1) post := Pv.below (w := w3) (by rw [HS3.out.2]; exact HLQ2.out) (hb7.mono h23)
            have HREST := Lib.hid hrest
            clear hrest
            have hk7 : Kp (fun x => x = P) w w7 := ((HK2.out.trans (show Kp (fun x => x = P) w2 w3 by rw [HS3.out.2, HW1.out]; exact ((Kp.refl _ _).drewN _).drewN _) (fun _ _ h => h))).trans (Kp.none_of_below (S := fun x => x = P) hb7) (fun _ _ h => h)
            have HK7 := Lib.hid hk7
            have HB7 := Lib.hid hb7
            have haP7 : Arr w7 P 46 #[.slice (some ⟨b4, off4, none⟩) m c] := (show Arr w3 P 46 #[.slice (some ⟨b4, off4, none⟩) m c] by rw [HS3.out.2]; exact HA1.out.1).below hb7 hP3
            have HP7 := Lib.hid haP7
            have HR7 : Hid (Rt w7 P base L) := ⟨(some ⟨b4, off4, none⟩), m, c, haP7, own_kp (own_kp HOWN.out.2.1 (show Kp (fun _ => False) w2 w3 by rw [HS3.out.2, HW1.out]; exact ((Kp.refl _ _).drewN _).drewN _) (fun _ _ h => h)) (Kp.none_of_below (S := fun _ => False) hb7) (fun _ _ h => h)⟩
            have HO7 := Lib.hid hown7
            clear hk7 hb7 haP7 hown7 hg7 hat7 hg6 hat6 hown6 hb6
            have hk1 := HK1.out
            have hk1m : k1 ≤ m := Nat.le_trans (Nat.le_of_eq HK1.out) (Nat.succ_le_of_lt e3)
            have z5 : k1 ≤ c := Nat.le_trans hk1m hmc
            have z3 : (0 : Int) ≤ (pre.length : Int) + 1 := by omega
            have z4 : (pre.length : Int) + 1 ≤ (c : Int) := by omega
            have z7 : (pre.length : Int) + 1 ≤ (m : Int) := by omega
            subst hk1
            clear HK1
            go_wp2_with fail
            go_quiet (fail)
            by_cases hck : c = pre.length + 1
            · have hbz : w3.heap.size ≤ w7.heap.size := HB7.out.size
              go_wp2_with (at_builtin; refine wpList_append_pv rfl (.tmp 74) (.tmp 80) 22 rfl w3.heap.size 27 i0 _ 40 Try.underlying22 hi hz0 hz1 hz2 rfl _ (0 + pre.length + 1) _ rfl HO7.out _ _ _ w2.heap.size post rfl (by first | exact HREST.out | (have h := HREST.out; rw [show m - (pre.length + 1) = 0 by omega] at h; have h0 := h.1; rw [List.eq_nil_of_length_eq_zero h0]; exact Pv.any0 (by omega) _ _ _)) (by unfold maxLen; omega) (by omega) (by simp; omega) ?_; intro v9 w9 hown9 hg9 hat9; obtain ⟨A9, m9, c9, rfl, hown9⟩ := own_slice3 hown9; have hP9 := (Arr.grown (w := w7.drewN nq) HP7.out hg9 (fun e => by have := (HO7.out.lt P e).1; omega)); have q0 := hP9.frozen 0; have q1 := hP9.at_ (i := 0) rfl; have HF := Lib.hid (fin_put (p := ⟨n, f, t, r⟩) HOK.out HN.out HNEW.out.2 hPw hbase (show w.heap.size ≤ w3.heap.size by omega) HK7.out HP7.out rfl (by have := HO7.out; rw [List.nil_append, ← pvs_append] at this; exact this) (by have := hown9; rw [List.nil_append, ← pvs_append] at this; exact this) hg9); clear hown9 hg9 hat9 hP9)
              go_ret
              exact HF.out
            · have hbz : w3.heap.size ≤ w7.heap.size := HB7.out.size
              go_wp2_with (at_builtin; refine wpList_append_pv rfl (.tmp 74) (.tmp 80) 22 rfl w3.heap.size 27 i0 _ 40 Try.underlying22 hi hz0 hz1 hz2 rfl _ (0 + pre.length + 1) _ rfl HO7.out _ _ _ w2.heap.size post rfl HREST.out (by unfold maxLen; omega) (by omega) (by simp; omega) ?_; intro v9 w9 hown9 hg9 hat9; obtain ⟨A9, m9, c9, rfl, hown9⟩ := own_slice3 hown9; have hP9 := (Arr.grown (w := w7.drewN nq) HP7.out hg9 (fun e => by have := (HO7.out.lt P e).1; omega)); have q0 := hP9.frozen 0; have q1 := hP9.at_ (i := 0) rfl; have HF := Lib.hid (fin_put (p := ⟨n, f, t, r⟩) HOK.out HN.out HNEW.out.2 hPw hbase (show w.heap.size ≤ w3.heap.size by omega) HK7.out HP7.out rfl (by have := HO7.out; rw [List.nil_append, ← pvs_append] at this; exact this) (by have := hown9; rw [List.nil_append, ← pvs_append] at this; exact this) hg9); clear hown9 hg9 hat9 hP9)
              go_ret
              exact HF.out
        · have hl : Op.bytesLess yn.toList n.toList = false := by rw [less_bb, ByteArray.toList_eq, ByteArray.toList_eq]; exact bb_asymm h
          have hee : (yn.toList == n.toList) = false := by
            rw [beq_eq_false_iff_ne, ByteArray.toList_eq, ByteArray.toList_eq]
            exact (bb_ne h).symm
          have HNEW : Hid (hasp n.data.toList L = false ∧ putp ⟨n, f, t, r⟩ L = pre ++ ⟨n, f, t, r⟩ :: (⟨yn, yf, yt, yr⟩ :: post)) := by
            have := put_new (p := ⟨n, f, t, r⟩) (A := pre) (B := ⟨yn, yf, yt, yr⟩ :: post) hpre.out (fun q hq => by
              rcases List.mem_cons.1 hq with rfl | hq
              · exact h
              · exact WideShapes.bytes_trans _ _ _ h (HPO.out q hq))
            rw [hpm.out] at this
            exact this
          clear h
          go_wp2_with fail
          go_quiet (fail)
          go_wp2_with fail
          obtain ⟨w3, hw3⟩ : ∃ w3, w3 = w1.drewN nq := ⟨_, rfl⟩
          rw [← hw3]
          have cP3 : w3.cell? ⟨P, 0, none⟩ = some (.slice (some ⟨b4, off4, none⟩) m c) := by rw [hw3]; exact cP
          have b03 : w3.cell? ⟨w.heap.size, 0, none⟩ = some (.string n) := by rw [hw3]; exact b0
          have b13 : w3.cell? ⟨w.heap.size, 1, none⟩ = some (.int .i64 f) := by rw [hw3]; exact b1
          have b23 : w3.cell? ⟨w.heap.size, 2, none⟩ = some (.int .i64 t) := by rw [hw3]; exact b2
          have b33 : w3.cell? ⟨w.heap.size, 3, none⟩ = some (.int .i64 r) := by rw [hw3]; exact b3
          have HPV3 := Lib.hid (show Pv w3 w2.heap.size (some ⟨b4, off4, none⟩) pre.length pre by rw [hw3]; exact HPV.out.drewN nq)
          have hs3 : w3.heap.size = w2.heap.size := by rw [hw3, HW1.out]; rfl
          have HS3 := Lib.hid (And.intro hs3 hw3)
          have h23 : w2.heap.size ≤ w3.heap.size := by omega
          have hP3 : P < w3.heap.size := by omega
          have hB3 : w.heap.size < w3.heap.size := by omega
          have hA2 : 0 + pre.length ≤ maxLen := by unfold maxLen; have := HLM.out; omega
          have hA3 : (0 + pre.length) * 40 ≤ 140737488355328 := by have := HLM.out; omega
          have hA4 : 0 + pre.length + 1 ≤ maxLen := by unfold maxLen; have := HLM.out; omega
          have hA5 : (0 + pre.length + 1) * 40 ≤ 140737488355328 := by have := HLM.out; omega
          have nP : ∀ X : Obj, (w3.alloc X).cell? ⟨P, 0, none⟩ = some (.slice (some ⟨b4, off4, none⟩) m c) := fun X => (World.cell?_alloc_lt w3 X ⟨P, 0, none⟩ hP3).trans cP3
          have n0 : ∀ X : Obj, (w3.alloc X).cell? ⟨w.heap.size, 0, none⟩ = some (.string n) := fun X => (World.cell?_alloc_lt w3 X ⟨w.heap.size, 0, none⟩ hB3).trans b03
          have n1 : ∀ X : Obj, (w3.alloc X).cell? ⟨w.heap.size, 1, none⟩ = some (.int .i64 f) := fun X => (World.cell?_alloc_lt w3 X ⟨w.heap.size, 1, none⟩ hB3).trans b13
          have n2 : ∀ X : Obj, (w3.alloc X).cell? ⟨w.heap.size, 2, none⟩ = some (.int .i64 t) := fun X => (World.cell?_alloc_lt w3 X ⟨w.heap.size, 2, none⟩ hB3).trans b23
          have n3 : ∀ X : Obj, (w3.alloc X).cell? ⟨w.heap.size, 3, none⟩ = some (.int .i64 r) := fun X => (World.cell?_alloc_lt w3 X ⟨w.heap.size, 3, none⟩ hB3).trans b33
          clear hs3 hw3
          go_region_held3 (fun w' => w'.cell? ⟨P, 0, none⟩ = some (.slice (some ⟨b4, off4, none⟩) m c) ∧ w'.cell? ⟨w.heap.size, 0, none⟩ = some (.string n) ∧ w'.cell? ⟨w.heap.size, 1, none⟩ = some (.int .i64 f) ∧ w'.cell? ⟨w.heap.size, 2, none⟩ = some (.int .i64 t) ∧ w'.cell? ⟨w.heap.size, 3, none⟩ = some (.int .i64 r)) (first | go_keep | exact ⟨nP _, n0 _, n1 _, n2 _, n3 _⟩ | exact ⟨sP, s0, s1, s2, s3⟩ | exact ⟨mP _, m0 _, m1 _, m2 _, m3 _⟩ | exact ⟨tP, t0, t1, t2, t3⟩) (first | (refine step_append_pv (by rfl) (.const (.slice none 0 0)) (.tmp 40) 22 (by rfl) w3.heap.size 27 i0 _ 40 Try.underlying22 hi hz0 hz1 hz2 (by rfl) (.slice none 0 0) 0 [] (by rfl) (World.ownsRow_nil _ _ _ _) (some ⟨b4, off4, none⟩) pre.length c w2.heap.size pre (by rfl) (by first | exact HPV3.out | exact HPV3.out.drewN 1) hA2 hA3 (Nat.le_refl _) ?_; intro v6 w6 hown6 hg6 hat6; have hb6 : Below w3.heap.size w3 w6 := (by first | exact (Below.refl _ w3).grown hg6 (Nat.le_refl _) (fun k hk => by cases hk) | exact (Below.refl _ w3).drew.grown hg6 (Nat.le_refl _) (fun k hk => by cases hk)); have hs6 := hb6.size; have sP := (hb6.cell (p := ⟨P, 0, none⟩) (by simp; omega)).trans cP3; have s0 := (hb6.cell (p := ⟨w.heap.size, 0, none⟩) (by simp; omega)).trans b03; have s1 := (hb6.cell (p := ⟨w.heap.size, 1, none⟩) (by simp; omega)).trans b13; have s2 := (hb6.cell (p := ⟨w.heap.size, 2, none⟩) (by simp; omega)).trans b23; have s3 := (hb6.cell (p := ⟨w.heap.size, 3, none⟩) (by simp; omega)).trans b33; have mP := (fun X : Obj => (World.cell?_alloc_lt w6 X ⟨P, 0, none⟩ (by simp; omega)).trans sP); have m0 := (fun X : Obj => (World.cell?_alloc_lt w6 X ⟨w.heap.size, 0, none⟩ (by simp; omega)).trans s0); have m1 := (fun X : Obj => (World.cell?_alloc_lt w6 X ⟨w.heap.size, 1, none⟩ (by simp; omega)).trans s1); have m2 := (fun X : Obj => (World.cell?_alloc_lt w6 X ⟨w.heap.size, 2, none⟩ (by simp; omega)).trans s2); have m3 := (fun X : Obj => (World.cell?_alloc_lt w6 X ⟨w.heap.size, 3, none⟩ (by simp; omega)).trans s3)) | (refine step_append_pv (by rfl) (.const (.slice none 0 0)) (.tmp 40) 22 (by rfl) w3.heap.size 27 i0 _ 40 Try.underlying22 hi hz0 hz1 hz2 (by rfl) (.slice none 0 0) 0 [] (by rfl) (World.ownsRow_nil _ _ _ _) (some ⟨b4, off4, none⟩) pre.length c w2.heap.size pre (by rfl) (by first | exact (HPV3.out.below ((Below.refl _ w3).alloc h23 _)) | exact (HPV3.out.below ((Below.refl _ w3).alloc h23 _).drew)) hA2 hA3 (by simp) ?_; intro v6 w6 hown6 hg6 hat6; have hb6 : Below w3.heap.size w3 w6 := (by first | exact ((Below.refl _ w3).alloc (Nat.le_refl _) _).grown hg6 (by simp) (fun k hk => by cases hk) | exact ((Below.refl _ w3).alloc (Nat.le_refl _) _).drew.grown hg6 (by simp) (fun k hk => by cases hk)); have hpn6 := (cell_new4 w3 ⟨n, f, t, r⟩).keep (w' := w6) (fun x hx => hg6.block x (by simpa using hx) (fun h => by cases h)); have hs6 := hb6.size; have sP := (hb6.cell (p := ⟨P, 0, none⟩) (by simp; omega)).trans cP3; have s0 := (hb6.cell (p := ⟨w.heap.size, 0, none⟩) (by simp; omega)).trans b03; have s1 := (hb6.cell (p := ⟨w.heap.size, 1, none⟩) (by simp; omega)).trans b13; have s2 := (hb6.cell (p := ⟨w.heap.size, 2, none⟩) (by simp; omega)).trans b23; have s3 := (hb6.cell (p := ⟨w.heap.size, 3, none⟩) (by simp; omega)).trans b33; have mP := (fun X : Obj => (World.cell?_alloc_lt w6 X ⟨P, 0, none⟩ (by simp; omega)).trans sP); have m0 := (fun X : Obj => (World.cell?_alloc_lt w6 X ⟨w.heap.size, 0, none⟩ (by simp; omega)).trans s0); have m1 := (fun X : Obj => (World.cell?_alloc_lt w6 X ⟨w.heap.size, 1, none⟩ (by simp; omega)).trans s1); have m2 := (fun X : Obj => (World.cell?_alloc_lt w6 X ⟨w.heap.size, 2, none⟩ (by simp; omega)).trans s2); have m3 := (fun X : Obj => (World.cell?_alloc_lt w6 X ⟨w.heap.size, 3, none⟩ (by simp; omega)).trans s3)) | (refine step_append_pv (by rfl) (.tmp 41) (.tmp 43) 22 (by rfl) w3.heap.size 27 i0 _ 40 Try.underlying22 hi hz0 hz1 hz2 (by rfl) v6 (0 + pre.length) ([] ++ pvs pre) (by rfl) (hown6.alloc _) (some ⟨w6.heap.size, 0, none⟩) 1 1 (w6.heap.size + 1) [⟨n, f, t, r⟩] (by rfl) (cell_new4 w6 ⟨n, f, t, r⟩) hA4 hA5 (by simp; omega) ?_; intro v7 w7 hown7 hg7 hat7; have hb7 : Below w3.heap.size w3 w7 := (by first | exact (hb6.alloc hs6 _).grown hg7 (by simp; omega) (fun k hk => (hown6.lt k hk).1) | exact (hb6.alloc hs6 _).drew.grown hg7 (by simp; omega) (fun k hk => (hown6.lt k hk).1)); have tP := (hb7.cell (p := ⟨P, 0, none⟩) (by simp; omega)).trans cP3; have t0 := (hb7.cell (p := ⟨w.heap.size, 0, none⟩) (by simp; omega)).trans b03; have t1 := (hb7.cell (p := ⟨w.heap.size, 1, none⟩) (by simp; omega)).trans b13; have t2 := (hb7.cell (p := ⟨w.heap.size, 2, none⟩) (by simp; omega)).trans b23; have t3 := (hb7.cell (p := ⟨w.heap.size, 3, none⟩) (by simp; omega)).trans b33) | (refine step_append_pv (by rfl) (.tmp 41) (.tmp 43) 22 (by rfl) w3.heap.size 27 i0 _ 40 Try.underlying22 hi hz0 hz1 hz2 (by rfl) v6 (0 + pre.length) ([] ++ pvs pre) (by rfl) hown6 (some ⟨w3.heap.size, 0, none⟩) 1 1 (w3.heap.size + 1) [⟨n, f, t, r⟩] (by rfl) hpn6 hA4 hA5 hs6 ?_; intro v7 w7 hown7 hg7 hat7; have hb7 : Below w3.heap.size w3 w7 := hb6.grown hg7 hs6 (fun k hk => (hown6.lt k hk).1); have tP := (hb7.cell (p := ⟨P, 0, none⟩) (by simp; omega)).trans cP3; have t0 := (hb7.cell (p := ⟨w.heap.size, 0, none⟩) (by simp; omega)).trans b03; have t1 := (hb7.cell (p := ⟨w.heap.size, 1, none⟩) (by simp; omega)).trans b13; have t2 := (hb7.cell (p := ⟨w.heap.size, 2, none⟩) (by simp; omega)).trans b23; have t3 := (hb7.cell (p := ⟨w.heap.size, 3, none⟩) (by simp; omega)).trans b33) | fail)
          all_goals
            have y07 : w7.cell? ⟨b4, off4 + pre.length * 4, none⟩ = some (.string yn) := (hb7.cell (p := ⟨b4, off4 + pre.length * 4, none⟩) (by show b4 < w3.heap.size; omega)).trans (by rw [HS3.out.2]; exact y0)
            have hrest : Pv w7 w2.heap.size (some ⟨b4, off4 + pre.length * 4, none⟩) (m - pre.length) (⟨yn, yf, yt, yr⟩ :: post) := Pv.below (w := w3) (by rw [HS3.out.2]; exact HLQ.out) (hb7.mono h23)
            have HREST := Lib.hid hrest
            clear hrest
            have hk7 : Kp (fun x => x = P) w w7 := ((HK2.out.trans (show Kp (fun x => x = P) w2 w3 by rw [HS3.out.2, HW1.out]; exact ((Kp.refl _ _).drewN _).drewN _) (fun _ _ h => h))).trans (Kp.none_of_below (S := fun x => x = P) hb7) (fun _ _ h => h)
            have HK7 := Lib.hid hk7
            have HB7 := Lib.hid hb7
            have haP7 : Arr w7 P 46 #[.slice (some ⟨b4, off4, none⟩) m c] := (show Arr w3 P 46 #[.slice (some ⟨b4, off4, none⟩) m c] by rw [HS3.out.2]; exact HA1.out.1).below hb7 hP3
            have HP7 := Lib.hid haP7
            have HR7 : Hid (Rt w7 P base L) := ⟨(some ⟨b4, off4, none⟩), m, c, haP7, own_kp (own_kp HOWN.out.2.1 (show Kp (fun _ => False) w2 w3 by rw [HS3.out.2, HW1.out]; exact ((Kp.refl _ _).drewN _).drewN _) (fun _ _ h => h)) (Kp.none_of_below (S := fun _ => False) hb7) (fun _ _ h => h)⟩
            have HO7 := Lib.hid hown7
            clear hk7 hb7 haP7 hown7 hg7 hat7 hg6 hat6 hown6 hb6
            go_wp2_with fail
            go_quiet (fail)
            by_cases h100 : 100 ≤ m
            · have D100 : decide ((100 : Int) ≤ (m : Int)) = true := decide_eq_true (by omega)
              go_wp2_with fail
              go_ret
              exact fin_long (p := ⟨n, f, t, r⟩) HOK.out HNEW.out.1 (by rw [HLM.out]; exact h100) HR0.out hPw hbase HK7.out HR7.out
            · have D100 : decide ((100 : Int) ≤ (m : Int)) = false := decide_eq_false (by omega)
              have HN : Hid (¬ (hasp n.data.toList L = false ∧ 100 ≤ L.length)) := fun h => h100 (by rw [← HLM.out]; exact h.2)
              have hbz : w3.heap.size ≤ w7.heap.size := HB7.out.size
              go_wp2_with (at_builtin; refine wpList_append_pv rfl (.tmp 74) (.tmp 80) 22 rfl w3.heap.size 27 i0 _ 40 Try.underlying22 hi hz0 hz1 hz2 rfl _ (0 + pre.length + 1) _ rfl HO7.out _ _ _ w2.heap.size (⟨yn, yf, yt, yr⟩ :: post) rfl HREST.out (by unfold maxLen; omega) (by omega) (by simp; omega) ?_; intro v9 w9 hown9 hg9 hat9; obtain ⟨A9, m9, c9, rfl, hown9⟩ := own_slice3 hown9; have hP9 := (Arr.grown (w := w7.drewN nq) HP7.out hg9 (fun e => by have := (HO7.out.lt P e).1; omega)); have q0 := hP9.frozen 0; have q1 := hP9.at_ (i := 0) rfl; have HF := Lib.hid (fin_put (p := ⟨n, f, t, r⟩) HOK.out HN.out HNEW.out.2 hPw hbase (show w.heap.size ≤ w3.heap.size by omega) HK7.out HP7.out rfl (by have := HO7.out; rw [List.nil_append, ← pvs_append] at this; exact this) (by have := hown9; rw [List.nil_append, ← pvs_append] at this; exact this) hg9); clear hown9 hg9 hat9 hP9)
              go_ret
              exact HF.out
  · rw [hce] at hck
    have HE := Lib.hid (fun (w' : World) (hr : Rt w' P base L) (hk : Kp (fun x => x = P) w w') => rpp_no (p := ⟨n, f, t, r⟩) hok hr hk)
    clear hk0 hB0 hs0 hce hok
    go_enter Try.func18, Try.ntmps18
    go_wp2_with fail
    refine hck.mono ?_
    rintro e w2 ⟨rfl, hb2⟩
    have hk2 : Kp (fun x => x = P) w w2 := HK0.out.1.trans (Kp.none_of_below (S := fun x => x = P) hb2) (fun _ _ h => h)
    have hR2 : Rt w2 P base L := hR.kp (S := fun _ => False) ⟨hk2.os, hk2.tape, hk2.output, hk2.size, fun x hx _ => by
      have h1 := hb2.block x (by rw [HK0.out.2.2]; omega)
      rw [h1]; exact Below.heap_alloc w _ x hx⟩ (fun h => h) (fun _ _ h => h)
    have HF := Lib.hid (HE.out w2 hR2 hk2)
    clear hck hb2 hk2 hR2
    go_wp2_with fail
    go_ret
    exact HF.out
end Go.Proofs.Ytghklmhmhekjgaa
