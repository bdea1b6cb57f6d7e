/- A table has a hundred plans, no more, and one of a name that is there takes its place. Without conditions. -/
import Derived.Test.YtghklmhmhekjgaaOpenP
import Derived.Test.YtghklmhmhekjgaaRows
import Derived.Test.YtghklmhmhekjgaaChecked
namespace Go.Proofs.Ytghklmhmhekjgaa.plansMany
open Go.ChangeShapes Go.WideShapes Go.ChangeAt Go.RowKit Go.Deep

theorem i64_in {x : Int} (h1 : -9223372036854775808 ≤ x) (h2 : x < 9223372036854775808) : IntKind.i64.wrap x = x := by
  rw [IntKind.wrap_i64]
  omega
/-- The i-th name. -/
def pn (i : Nat) : ByteArray := ⟨#[112, UInt8.ofNat (48 + i / 100), UInt8.ofNat (48 + i / 10 % 10), UInt8.ofNat (48 + i % 10)]⟩
/-- The i-th plan. -/
def PP (i : Nat) : Pl := ⟨pn i, 0, 1, 0⟩
theorem pn_inj {i j : Nat} (hi : i < 120) (hj : j < 120) (h : (PP i).nm = (PP j).nm) : i = j := by
  simp only [PP, pn, Pl.nm, List.cons.injEq, and_true] at h
  obtain ⟨_, h1, h2, h3⟩ := h
  have e1 := congrArg UInt8.toNat h1
  have e2 := congrArg UInt8.toNat h2
  have e3 := congrArg UInt8.toNat h3
  simp only [UInt8.toNat_ofNat'] at e1 e2 e3
  omega
theorem okd : ∀ d, d < 10 → okB (UInt8.ofNat (48 + d)) = true := by decide
theorem pn_ok {i : Nat} (hi : i < 120) : OkP (pn i) 0 1 0 := by
  refine ⟨?_, by show 0 < 4; omega, by show 4 ≤ 64; omega, by decide, by decide, by decide, by decide, by decide, by decide, by decide⟩
  simp only [pn, List.all_cons, List.all_nil, okd (i / 100) (by omega), okd (i / 10 % 10) (by omega), okd (i % 10) (by omega)]
  decide

/-- When k are put. -/
structure MInv (k : Nat) (M : List Pl) : Prop where
  len : M.length = min k 100
  mem : ∀ q, q ∈ M ↔ ∃ j, j < min k 100 ∧ q = PP j
theorem minv_zero : MInv 0 [] := by
  refine ⟨rfl, fun q => ?_⟩
  constructor
  · intro h; cases h
  · rintro ⟨j, h, _⟩; omega
theorem minv_not {k : Nat} {M : List Pl} (h : MInv k M) (hk : k < 120) : hasp (PP k).nm M = false := by
  unfold hasp
  rw [List.any_eq_false]
  intro q hq
  obtain ⟨j, hj, rfl⟩ := (h.mem q).1 hq
  simp only [beq_iff_eq]
  intro e
  have := pn_inj (by omega) hk e
  omega
theorem minv_put {k : Nat} {M : List Pl} (h : MInv k M) (hk : k < 100) : MInv (k + 1) (putp (PP k) M) := by
  have hn := minv_not h (by omega)
  refine ⟨by rw [length_put_new hn, h.len]; omega, fun q => ?_⟩
  rw [mem_put, h.mem]
  constructor
  · rintro (rfl | ⟨⟨j, hj, rfl⟩, _⟩)
    · exact ⟨k, by omega, rfl⟩
    · exact ⟨j, by omega, rfl⟩
  · rintro ⟨j, hj, rfl⟩
    by_cases e : j = k
    · subst e; exact .inl rfl
    · exact .inr ⟨⟨j, by omega, rfl⟩, fun e2 => e (pn_inj (by omega) (by omega) e2)⟩
theorem minv_stay {k : Nat} {M : List Pl} (h : MInv k M) (hk : 100 ≤ k) : MInv (k + 1) M := by
  have e : min (k + 1) 100 = min k 100 := by omega
  exact ⟨by rw [e]; exact h.len, fun q => by rw [e]; exact h.mem q⟩
theorem put_e {k : Nat} {M : List Pl} (h : MInv k M) (hk : k < 120) : (k < 100 → putE (PP k) M = 0 ∧ putL (PP k) M = putp (PP k) M) ∧ (100 ≤ k → putE (PP k) M = 2 ∧ putL (PP k) M = M) := by
  have hok : OkP (PP k).n (PP k).f (PP k).t (PP k).r := pn_ok hk
  have hn := minv_not h hk
  have hl := h.len
  unfold putE putL
  rw [if_pos hok, if_pos hok]
  refine ⟨fun h1 => ?_, fun h1 => ?_⟩
  · rw [if_neg (fun h => by omega), if_neg (fun h => by omega)]; exact ⟨rfl, rfl⟩
  · rw [if_pos ⟨hn, by omega⟩, if_pos ⟨hn, by omega⟩]; exact ⟨rfl, rfl⟩

/-- The digits. -/
def dig : ByteArray := ⟨#[48, 49, 50, 51, 52, 53, 54, 55, 56, 57]⟩
theorem dig_at : ∀ a, a < 10 → dig.extract a (a + 1) = ⟨#[UInt8.ofNat (48 + a)]⟩ := by decide
theorem pn_eq {k a a1 d d1 e e1 : Nat} (ha : a = k / 100) (ha1 : a1 = a + 1) (hd : d = k / 10 % 10) (hd1 : d1 = d + 1) (he : e = k % 10) (he1 : e1 = e + 1) (hk : k < 120) :
    (⟨#[112]⟩ ++ dig.extract a a1 ++ dig.extract d d1 ++ dig.extract e e1 : ByteArray) = pn k := by
  subst ha1; subst hd1; subst he1
  rw [dig_at a (by omega), dig_at d (by omega), dig_at e (by omega), ha, hd, he]
  rfl

/-- The plan that takes a place. -/
def last : Pl := ⟨⟨#[112, 48, 48, 48]⟩, 5, 6, 9⟩
theorem last_nm : last.nm = (PP 0).nm := by decide
theorem last_ok : OkP last.n last.f last.t last.r := ⟨by decide, by decide, by decide, by decide, by decide, by decide, by decide, by decide, by decide, by decide⟩
theorem last_has {k : Nat} {M : List Pl} (h : MInv k M) (hk : 0 < k) : hasp last.nm M = true := by
  unfold hasp
  rw [List.any_eq_true]
  exact ⟨PP 0, (h.mem _).2 ⟨0, by omega, rfl⟩, by rw [last_nm]; simp⟩
theorem last_put {k : Nat} {M : List Pl} (h : MInv k M) (hk : 0 < k) : putE last M = 0 ∧ putL last M = putp last M := by
  have hh := last_has h hk
  unfold putE putL
  rw [if_pos last_ok, if_pos last_ok, if_neg (fun h => by rw [hh] at h; cases h.1), if_neg (fun h => by rw [hh] at h; cases h.1)]
  exact ⟨rfl, rfl⟩
theorem last_len {k : Nat} {M : List Pl} (h : MInv k M) (hr : Ris M) (hk : 0 < k) : (putp last M).length = min k 100 := by
  rw [length_put_old hr (last_has h hk), h.len]
theorem foldl_off (now : Int) : ∀ (L : List Pl) (a : Int), (∀ q ∈ L, ¬ (q.f ≤ now ∧ now < q.t)) → L.foldl (actS now) a = a
  | [], _, _ => rfl
  | p :: r, a, h => by
    rw [List.foldl_cons]
    have e : actS now a p = a := by unfold actS; rw [if_neg (h p (List.mem_cons_self ..))]
    rw [e]
    exact foldl_off now r a (fun q hq => h q (List.mem_cons_of_mem _ hq))
theorem foldl_insp (now : Int) (p : Pl) (hp : p.f ≤ now ∧ now < p.t) (h9 : 0 ≤ p.r) : ∀ (L : List Pl), (∀ q ∈ L, ¬ (q.f ≤ now ∧ now < q.t)) → (insp p L).foldl (actS now) 0 = p.r
  | [], _ => by
    show actS now 0 p = p.r
    unfold actS
    rw [if_pos hp]
    omega
  | a :: r, h => by
    unfold insp
    split
    · rw [List.foldl_cons, foldl_off now _ _ h]
      unfold actS
      rw [if_pos hp]
      omega
    · rw [List.foldl_cons]
      have e : actS now 0 a = 0 := by unfold actS; rw [if_neg (h a (List.mem_cons_self ..))]
      rw [e]
      exact foldl_insp now p hp h9 r (fun q hq => h q (List.mem_cons_of_mem _ hq))
theorem last_act {k : Nat} {M : List Pl} (h : MInv k M) : actv 5 (putp last M) = 9 := by
  unfold actv putp
  refine foldl_insp 5 last ⟨by decide, by decide⟩ (by decide) _ fun q hq => ?_
  unfold delp at hq
  obtain ⟨j, _, rfl⟩ := (h.mem q).1 (List.mem_filter.1 hq).1
  intro hc
  have := hc.2
  unfold PP at this
  simp only at this
  omega

set_option maxRecDepth 100000 in
set_option maxHeartbeats 4000000 in
theorem walk (n : Int) (w : World) : Calls Try.prog 4 #[.int .i64 n] w fun e w' => e = .returned (.bool true) ∧ Below w.heap.size w w' := by
  have hal := alive7 w
  by_cases b0 : n < 1
  · have d0 : decide (n < 1) = true := decide_eq_true b0
    go_enter Try.func4, Try.ntmps4
    go_wp2_with fail
    refine hal.mono ?_
    rintro e w1 ⟨rfl, hb1⟩
    go_wp2_with fail
    go_ret
    exact ⟨rfl, hb1⟩
  · have d0 : decide (n < 1) = false := decide_eq_false b0
    by_cases b1 : 120 < n
    · have d1 : decide (120 < n) = true := decide_eq_true b1
      go_enter Try.func4, Try.ntmps4
      go_wp2_with fail
      refine hal.mono ?_
      rintro e w1 ⟨rfl, hb1⟩
      go_wp2_with fail
      go_ret
      exact ⟨rfl, hb1⟩
    · obtain ⟨N, rfl⟩ : ∃ N : Nat, n = N := ⟨n.toNat, by omega⟩
      have d1 : decide (120 < ((N : Nat) : Int)) = false := decide_eq_false b1
      have hN : N ≤ 120 := by omega
      have hN1 : 0 < N := by omega
      go_enter Try.func4, Try.ntmps4
      go_wp2_with fail
      refine hal.mono ?_
      rintro e w1 ⟨rfl, hb1⟩
      have hnw := new8 w1
      clear hal
      go_wp2_with fail
      refine hnw.mono ?_
      rintro e w2 ⟨rfl, hT2, hb2⟩
      clear hnw
      have hb2' : Below w.heap.size w w2 := hb1.trans (hb2.mono hb1.size)
      have hs1 := hb1.size
      clear hb1 hb2
      obtain ⟨T, hTe⟩ : ∃ T, T = w1.heap.size + 1 := ⟨_, rfl⟩
      obtain ⟨b, hbe⟩ : ∃ b, b = w1.heap.size := ⟨_, rfl⟩
      rw [← hTe, ← hbe] at hT2
      rw [← hTe]
      have hTb : w.heap.size ≤ b ∧ w.heap.size ≤ T := by omega
      clear hTe hbe hs1 b0 b1
      go_wp2_with fail
      go_loopw [5] (fun i wr => ∃ (k : Nat) (M : List Pl), k ≤ N ∧ i = .int .i64 k ∧ MInv k M ∧ Tb wr T b M ∧ Below w.heap.size w wr) (fun i _ => N - (intOf i).toNat)
      case atStart => exact ⟨0, [], Nat.zero_le _, rfl, minv_zero, hT2, hb2'⟩
      case round =>
        obtain ⟨k, M, hk, rfl, hinv, hT, hbr⟩ := hrel
        clear hT2 hb2'
        by_cases hlt : k < N
        · obtain ⟨a, ha⟩ : ∃ a, a = k / 100 := ⟨_, rfl⟩
          obtain ⟨a1, ha1⟩ : ∃ a1, a1 = a + 1 := ⟨_, rfl⟩
          obtain ⟨m, hm⟩ : ∃ m, m = k / 10 := ⟨_, rfl⟩
          obtain ⟨d, hd⟩ : ∃ d, d = m % 10 := ⟨_, rfl⟩
          obtain ⟨d1, hd1⟩ : ∃ d1, d1 = d + 1 := ⟨_, rfl⟩
          obtain ⟨x, hx⟩ : ∃ x, x = k % 10 := ⟨_, rfl⟩
          obtain ⟨x1, hx1⟩ : ∃ x1, x1 = x + 1 := ⟨_, rfl⟩
          have W1 : IntKind.i64.wrap ((k : Int) / 100) = (a : Int) := by rw [i64_in (by omega) (by omega)]; omega
          have W2 : IntKind.i64.wrap ((a : Int) + 1) = (a1 : Int) := by rw [i64_in (by omega) (by omega)]; omega
          have W3 : IntKind.i64.wrap ((k : Int) / 10) = (m : Int) := by rw [i64_in (by omega) (by omega)]; omega
          have W4 : IntKind.i64.wrap ((m : Int) % 10) = (d : Int) := by rw [i64_in (by omega) (by omega)]; omega
          have W5 : IntKind.i64.wrap ((d : Int) + 1) = (d1 : Int) := by rw [i64_in (by omega) (by omega)]; omega
          have W6 : IntKind.i64.wrap ((k : Int) % 10) = (x : Int) := by rw [i64_in (by omega) (by omega)]; omega
          have W7 : IntKind.i64.wrap ((x : Int) + 1) = (x1 : Int) := by rw [i64_in (by omega) (by omega)]; omega
          have W4a : IntKind.i64.wrap (((m % 10 : Nat) : Nat) : Int) = (d : Int) := by rw [i64_in (by omega) (by omega)]; omega
          have W6a : IntKind.i64.wrap (((k % 10 : Nat) : Nat) : Int) = (x : Int) := by rw [i64_in (by omega) (by omega)]; omega
          have T4 : (m : Int).tmod 10 = (d : Int) := by rw [Int.tmod_eq_emod_of_nonneg (by omega)]; omega
          have T6 : (k : Int).tmod 10 = (x : Int) := by rw [Int.tmod_eq_emod_of_nonneg (by omega)]; omega
          have C7 : ¬ 9223372036854775807 < 1 + (min a1 10 - a) := by omega
          have C16 : ¬ 9223372036854775807 < 1 + (min a1 10 - a) + (min d1 10 - d) := by omega
          have C23 : ¬ 9223372036854775807 < 1 + (min a1 10 - a) + (min d1 10 - d) + (min x1 10 - x) := by omega
          have B1 : (0 : Int) ≤ (a : Int) := by omega
          have B2 : (a : Int) ≤ (a1 : Int) := by omega
          have B3 : (a1 : Int) ≤ 10 := by omega
          have B3' : (0 : Int) ≤ (a1 : Int) := by omega
          have B4 : (0 : Int) ≤ (d : Int) := by omega
          have B5 : (d : Int) ≤ (d1 : Int) := by omega
          have B6 : (d1 : Int) ≤ 10 := by omega
          have B6' : (0 : Int) ≤ (d1 : Int) := by omega
          have B7 : (0 : Int) ≤ (x : Int) := by omega
          have B8 : (x : Int) ≤ (x1 : Int) := by omega
          have B9 : (x1 : Int) ≤ 10 := by omega
          have B9' : (0 : Int) ≤ (x1 : Int) := by omega
          have hpn := pn_eq ha ha1 (by rw [hd, hm]) hd1 hx hx1 (by omega)
          unfold dig at hpn
          have hq := put10 T b (pn k) 0 1 0 M wr.drew (hT.keep rfl rfl) (by show 4 ≤ 1000000; omega) (by have := hinv.len; omega)
          unfold PPost at hq
          have hpe := put_e hinv (by omega)
          by_cases h100 : 100 ≤ k
          · skip
            obtain ⟨e1, e2⟩ := hpe.2 h100
            unfold PP at e1 e2
            rw [e1, e2, ← hpn] at hq
            have HQ := Lib.hid hq
            have HPN := Lib.hid hpn
            have HI := Lib.hid (minv_stay hinv h100)
            have HH := Lib.hid hbr
            clear ha ha1 hm hd hd1 hx hx1 hq hpn hinv hbr hT e1 e2 hpe
            have D1 : decide (100 ≤ ((k : Nat) : Int)) = true := decide_eq_true (by omega)
            go_wp2_with fail
            go_region_held3 (fun w' => True) (trivial) ((go_at_call 10; refine HQ.out.mono ?_; rintro e w3 ⟨rfl, hT3, hk3⟩))
            have hT3' : Tb w3 T b M := hT3
            have hb3 : Below w.heap.size w w3 := HH.out.trans (Below.trans (Below.drew (Below.refl _ _)) (hk3.below HH.out.size (fun z hz e => by omega)))
            have HX := Lib.hid (And.intro hT3' hb3)
            clear hT3 hT3' hk3 hb3
            go_wp2_with (go_at_call 11; refine (num11 _ _).mono ?_; rintro e w5 ⟨rfl, hw5⟩; rw [hw5]; clear hw5 w5)
            go_roundw
            case rel => exact ⟨k + 1, _, by omega, by go_num, HI.out, HX.out.1, HX.out.2⟩
            case measure => simp [intOf]; omega
          · skip
            obtain ⟨e1, e2⟩ := hpe.1 (by omega)
            unfold PP at e1 e2
            rw [e1, e2, ← hpn] at hq
            have HQ := Lib.hid hq
            have HPN := Lib.hid hpn
            have HI := Lib.hid (minv_put hinv (by omega))
            have HH := Lib.hid hbr
            clear ha ha1 hm hd hd1 hx hx1 hq hpn hinv hbr hT e1 e2 hpe
            have D1 : decide (100 ≤ ((k : Nat) : Int)) = false := decide_eq_false (by omega)
            have D2 : decide (((k : Nat) : Int) < 100) = true := decide_eq_true (by omega)
            go_wp2_with fail
            go_region_held3 (fun w' => True) (trivial) ((go_at_call 10; refine HQ.out.mono ?_; rintro e w3 ⟨rfl, hT3, hk3⟩))
            have hT3' : Tb w3 T b (putp (PP k) M) := by have := hT3; rw [HPN.out] at this; exact this
            have hb3 : Below w.heap.size w w3 := HH.out.trans (Below.trans (Below.drew (Below.refl _ _)) (hk3.below HH.out.size (fun z hz e => by omega)))
            have HX := Lib.hid (And.intro hT3' hb3)
            clear hT3 hT3' hk3 hb3
            go_wp2_with (go_at_call 11; refine (num11 _ _).mono ?_; rintro e w5 ⟨rfl, hw5⟩; rw [hw5]; clear hw5 w5)
            go_roundw
            case rel => exact ⟨k + 1, _, by omega, by go_num, HI.out, HX.out.1, HX.out.2⟩
            case measure => simp [intOf]; omega
        · obtain rfl : k = N := by omega
          have hlp := last_put hinv hN1
          have hac := last_act hinv
          have hln := last_len hinv hT.ris hN1
          have hq := put10 T b ⟨#[112, 48, 48, 48]⟩ 5 6 9 M wr hT (by decide) (by have := hinv.len; omega)
          unfold PPost at hq
          obtain ⟨e1, e2⟩ := hlp
          unfold last at e1 e2 hac hln
          rw [e1, e2] at hq
          obtain ⟨M2, hM2⟩ : ∃ M2, M2 = putp ⟨⟨#[112, 48, 48, 48]⟩, 5, 6, 9⟩ M := ⟨_, rfl⟩
          rw [← hM2] at hq hac hln
          have HH := Lib.hid hbr
          clear hM2 e1 e2 hinv hT hbr
          go_wp2_with fail
          refine hq.mono ?_
          rintro e w3 ⟨rfl, hT3, hk3⟩
          have hb3 : Below w.heap.size w w3 := HH.out.trans (hk3.below HH.out.size (fun z hz e => by omega))
          have ha := active12 T b 5 M2 w3 hT3 (by omega)
          rw [hac] at ha
          have hl := fun W h => list13 T b M2 W h (by omega)
          have HL := Lib.hid (And.intro hT3 (And.intro hb3 hl))
          have HLN := Lib.hid hln
          clear hT3 hk3 hb3 hl hq hac hln
          by_cases h100 : 100 < k
          · have D1 : decide (100 < ((k : Nat) : Int)) = true := decide_eq_true (by omega)
            go_wp2_with fail
            refine (num11 _ _).mono ?_
            rintro e w5 ⟨rfl, hw5⟩
            rw [hw5]
            clear hw5 w5
            go_wp2_with fail
            refine ha.mono ?_
            rintro e w6 ⟨rfl, hb6⟩
            go_wp2_with fail
            go_ret
            exact ⟨rfl, HL.out.2.1.trans (hb6.mono HL.out.2.1.size)⟩
          · have D1 : decide (100 < ((k : Nat) : Int)) = false := decide_eq_false (by omega)
            go_wp2_with fail
            refine (num11 _ _).mono ?_
            rintro e w5 ⟨rfl, hw5⟩
            rw [hw5]
            clear hw5 w5
            go_wp2_with fail
            refine ha.mono ?_
            rintro e w6 ⟨rfl, hb6⟩
            have hl6 := HL.out.2.2 w6 (HL.out.1.below hb6 HL.out.1.lt.1 HL.out.1.lt.2)
            clear ha
            go_wp2_with fail
            refine hl6.mono ?_
            rintro e w7 ⟨v, rfl, hown, hb7⟩
            obtain ⟨A, c, rfl⟩ := own_slice hown
            have HB := Lib.hid ((HL.out.2.1.trans (hb6.mono HL.out.2.1.size)).trans (hb7.mono (Nat.le_trans HL.out.2.1.size hb6.size)))
            have hlen : M2.length = k := by have := HLN.out; omega
            rw [hlen]
            clear hown hb7 hl6 hlen
            go_wp2_with fail
            go_ret
            exact ⟨rfl, HB.out⟩

set_option maxRecDepth 100000 in
theorem lifted (os : Os) (started : os.Started) (H : Type) (enc : TypeId × Value → H) :
    ReturnsInHanded {} Try.checked os 4 .any (Rows.plansManySpec.pre6 enc Try.prog Try.f4 Rows.plansManyRow.domain false) (Rows.plansManySpec.post enc Try.prog Try.f4 false true false false) := by
  refine returnsInHanded_of_change_sized (C := Try.checked) Try.own started (by kernel_rfl) Try.func4
    (ChangeSpec.witness6 (enc := enc) (C := Try.checked) false ⟨#[], #[.int .i64 0], []⟩ 8 (by kernel_rfl) (by kernel_rfl) (by kernel_rfl) (by kernel_rfl)) ?_
  intro W base args ds gs before hval0 hW hcnd hwt0 _
  have hval : ∀ (j : Nat) t v, Try.f4.params[j]? = some t → args[j]? = some v → Value.okWide Try.prog W .any base t v := hval0
  have hW' := hW
  obtain ⟨p, q, hA0, hV, rfl, _, _⟩ := hW
  have hA : DataW.TrodAll enc Try.prog W 0 (fun _ => true) true Try.f4.params.toList args.toList ds p := hA0
  rw [Try.params4] at hA hval
  obtain ⟨v0, vs0, d0, ds0, p0, q0, hargs, rfl, rfl, h0, r0⟩ := trodAll_cons hA
  obtain ⟨rfl, rfl, rfl⟩ := trodAll_nil r0
  obtain rfl : args = #[v0] := by cases args; simp_all
  obtain ⟨rfl, rfl⟩ := trodVars_none hV
  obtain ⟨n, rfl⟩ := okWide_int Try.underlying3 (hval 0 3 v0 rfl rfl)
  refine (walk n W).mono fun e W' ⟨he, hb⟩ => ?_
  subst he
  exact ⟨_, rfl, law_post Try.laidOut (by kernel_rfl) rfl rfl Try.underlying4 hW' ⟨rfl, rfl, rfl⟩ hb⟩

theorem over : Rows.plansManyRow.holds Try.pinned (OpenSpec.ofChange Rows.plansManySpec) :=
  OpenClaim.holds_of_wide 4 Try.f4 rfl rfl rfl rfl rfl rfl rfl ⟨rfl, rfl, rfl, rfl, rfl⟩ rfl rfl rfl rfl rfl (by kernel_rfl) Try.func4 (by kernel_rfl)
    (of_decide_eq_true (by kernel_rfl)) (by unfold Func.isWrapper; first | (rw [if_pos (by decide +kernel)]; kernel_rfl) | (rw [if_neg (by decide +kernel)]; exact ⟨rfl, rfl⟩))
    (fun os started H enc _ => lifted os started H enc)

/-- THE STATEMENT. -/
theorem proved : Rows.PlansManySaid :=
  over
end Go.Proofs.Ytghklmhmhekjgaa.plansMany
