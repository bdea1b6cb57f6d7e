/- What Unpack answers. Conditions: at most 900,000 bytes, each below 256. -/
import Derived.Test.YtghklmhmhekjgaaUpk
import Derived.Test.YtghklmhmhekjgaaPack
import Derived.Test.YtghklmhmhekjgaaAlive
import Derived.Deep.LoopGhost
namespace Go.Proofs.Ytghklmhmhekjgaa
open Go.RowKit PC

def UPost (w : World) (l : List Nat) (e : Ending) (w' : World) : Prop :=
  match ans l with
  | some M => ∃ T b, e = .returned (.tuple #[.pointer (some ⟨T, 0, none⟩), .int .i64 0]) ∧ Tb w' T b M ∧ w.heap.size ≤ T ∧ w.heap.size ≤ b ∧ Below w.heap.size w w'
  | none => e = .returned (.tuple #[.pointer none, .int .i64 5]) ∧ Below w.heap.size w w'
theorem UPost.none {w w' : World} {l : List Nat} (h : ans l = .none) (hb : Below w.heap.size w w') : UPost w l (.returned (.tuple #[.pointer .none, .int .i64 5])) w' := by
  unfold UPost; rw [h]; exact ⟨rfl, hb⟩
theorem UPost.some {w w' : World} {l : List Nat} {M : List Pl} {T b : Nat} (h : ans l = .some M) (hT : Tb w' T b M) (h1 : w.heap.size ≤ T) (h2 : w.heap.size ≤ b) (hb : Below w.heap.size w w') :
    UPost w l (.returned (.tuple #[.pointer (.some ⟨T, 0, .none⟩), .int .i64 0])) w' := by
  unfold UPost; rw [h]; exact ⟨T, b, rfl, hT, h1, h2, hb⟩
/-- Where the loop stands: what is to come, of the whole. -/
def UInv (V : Int) (U : Option (List Pl)) (i : Nat) (bad : Bool) (lr : List Nat) (M : List Pl) : Prop :=
  Good M ∧ (bad = true → U = none) ∧ (bad = false → upk (V.toNat - i) lr M = U)

theorem rd_le (l : List Nat) : (rdS l).2.length ≤ l.length := by
  have l1 : (gL false l).2.length ≤ l.length := gL_len
  unfold rdS
  split
  · exact l1
  · have l2 : (rdL2 l).length ≤ (gL false l).2.length := by unfold rdL2; rw [List.length_drop]; omega
    have l3 : (rdS3 l).2.length ≤ (rdL2 l).length := gL_len
    have l4 : (rdS4 l).2.length ≤ (rdS3 l).2.length := gL_len
    have l5 : (rdS5 l).2.length ≤ (rdS4 l).2.length := gL_len
    omega
theorem putL_good {M : List Pl} (h : Good M) (p : Pl) : Good (putL p M) := by
  by_cases he : putE p M = 0
  · obtain ⟨_, e, hg⟩ := good_put h he
    rw [e]; exact hg
  · unfold putE at he
    unfold putL
    split
    · rename_i hp
      rw [if_pos hp] at he
      split
      · exact h
      · rename_i h2
        rw [if_neg h2] at he
        exact absurd rfl he
    · exact h
theorem pk1_byte (p : Pl) : ∀ x ∈ pk1 p, x < 256 := by
  intro x hx
  unfold pk1 at hx
  simp only [List.mem_append] at hx
  rcases hx with h | h | h | h | h
  · exact vput_byte _ x h
  · exact nb_lt _ x h
  · exact vput_byte _ x h
  · exact vput_byte _ x h
  · exact vput_byte _ x h
theorem packL_byte (L : List Pl) : ∀ x ∈ packL L, x < 256 := by
  intro x hx
  unfold packL at hx
  rcases List.mem_append.1 hx with h | h
  · exact vput_byte _ x h
  · obtain ⟨p, _, h⟩ := List.mem_flatMap.1 h
    exact pk1_byte p x h
theorem VgV_range (l : List Nat) : -9223372036854775808 ≤ VgV l ∧ VgV l ≤ 9223372036854775807 := by
  unfold VgV
  split
  · unfold wrap64
    omega
  · omega
theorem RS.set1 {w : World} {R B : Nat} {bad : Bool} {l : List Nat} (h : RS w R B bad l) (hB : B ≤ R) (x : Bool) : RS (w.setCell ⟨R, 1, none⟩ (.bool x)) R B x l := by
  obtain ⟨A, n, c, ha, hr, h3⟩ := h
  exact ⟨A, n, c, ha.set 1 _, hr.keep fun y hy => Below.heap_setCell w _ _ y (by simp; omega), h3⟩
theorem UInv.bad {V : Int} {U : Option (List Pl)} {i : Nat} {lr lr' : List Nat} {M M' : List Pl} (h : UInv V U i false lr M) (hi : (i : Int) < V) (hM : Good M') (hb : ¬ rndB lr M) : UInv V U (i + 1) true lr' M' := by
  refine ⟨hM, fun _ => ?_, fun e => by cases e⟩
  rw [← h.2.2 rfl]
  exact upk_no hb (by omega)
theorem UInv.next {V : Int} {U : Option (List Pl)} {i : Nat} {lr : List Nat} {M : List Pl} (h : UInv V U i false lr M) (hi : (i : Int) < V) (hb : rndB lr M) : UInv V U (i + 1) false (rdS lr).2 (putL (rdP lr) M) := by
  obtain ⟨_, e, hg⟩ := good_put h.1 hb.2
  refine ⟨by rw [e]; exact hg, (fun e => by cases e), fun _ => ?_⟩
  have := h.2.2 rfl
  rw [upk_go hb (by omega), show V.toNat - i - 1 = V.toNat - (i + 1) by omega] at this
  exact this
theorem Kp.cell1 (w : World) (g i : Nat) (v : Value) : Kp (fun x => x = g) w (w.setCell ⟨g, i, none⟩ v) := (Kp.refl (fun x => x = g) w).setCell (p := ⟨g, i, none⟩) (.inl rfl) v

set_option maxRecDepth 100000 in
set_option maxHeartbeats 4000000 in
theorem unpack14 (A : Option Addr) (n c B : Nat) (l : List Nat) (w : World) (hr : Rd w B A n (l.map bv)) (hnc : n ≤ c) (hcm : c ≤ maxLen) (hn : n ≤ 900000) (hlt : ∀ x ∈ l, x < 256) (hadr : Adr A c) (hB : B ≤ w.heap.size) :
    Calls Try.prog 14 #[.slice A n c] w (UPost w l) := by
  have hln := hr.blen
  have hrs0 : RS (w.alloc (.cells #[.slice A n c, .bool false] 64)) w.heap.size B false l :=
    ⟨A, n, c, Arr.new w 64 _, hr.keep fun x hx => Below.heap_alloc w _ x (by omega), hnc, hcm, by omega, hlt, hadr⟩
  have hnw := new8 (w.alloc (.cells #[.slice A n c, .bool false] 64))
  have hbw : Below w.heap.size w (w.alloc (.cells #[.slice A n c, .bool false] 64)) := (Below.refl _ _).alloc (Nat.le_refl _) _
  have hs1 : (w.alloc (.cells #[.slice A n c, .bool false] 64)).heap.size = w.heap.size + 1 := by simp
  rw [hs1] at hnw
  obtain ⟨w1, hw1⟩ : ∃ w1, w1 = w.alloc (.cells #[.slice A n c, .bool false] 64) := ⟨_, rfl⟩
  rw [← hw1] at hrs0 hbw hs1 hnw
  have HRd := Lib.hid (And.intro hr hlt)
  have HW := Lib.hid hw1
  clear hr hlt
  obtain ⟨T, hT⟩ : ∃ T, T = w.heap.size + 1 + 1 := ⟨_, rfl⟩
  obtain ⟨b, hbb⟩ : ∃ b, b = w.heap.size + 1 := ⟨_, rfl⟩
  rw [← hT, ← hbb] at hnw
  have hRT : w.heap.size ≠ T ∧ w.heap.size ≠ b ∧ w.heap.size < T ∧ w.heap.size < b ∧ T ≠ b ∧ b = w.heap.size + 1 := by omega
  have HS1 := Lib.hid hs1
  have HRT := Lib.hid hRT
  clear hT hbb hs1 hRT hw1
  go_enter Try.func14, Try.ntmps14
  go_wp2_with fail
  rw [← HW.out]
  refine hnw.mono ?_
  rintro e w2 ⟨rfl, hT2, hb2⟩
  have hs1 := HS1.out
  have hRT := HRT.out
  have hrs2 : RS w2 w.heap.size B false l := hrs0.kp (S := fun _ => False) ⟨hb2.os, hb2.tape, hb2.output, by have := hb2.size; omega, fun x hx _ => hb2.block x (by omega)⟩ (by omega) (fun h => h) (fun _ _ h => h)
  have hg := get28 w.heap.size B false l w2 hrs2 (by omega)
  have hb2' : Below w.heap.size w w2 := hbw.trans (hb2.mono (by omega))
  have hTl := hT2.lt
  have HLN := Lib.hid hln
  clear hrs0 hb2 hbw hnw hln hs1
  go_wp2_with fail
  refine hg.mono ?_
  rintro e w3 ⟨rfl, hrs3, hk3⟩
  have hT3 := hT2.kp hk3 (by omega) (by omega)
  have hb3 : Below w.heap.size w w3 := hb2'.trans (hk3.below (by have := hT2.lt; omega) (fun x hx e => by omega))
  obtain ⟨V, hV⟩ : ∃ V, V = VgV l := ⟨_, rfl⟩
  obtain ⟨U, hU⟩ : ∃ U, U = upk V.toNat (gL false l).2 [] := ⟨_, rfl⟩
  rw [← hV]
  have HV := Lib.hid (And.intro hV hU)
  have HI0 : UInv V (if (gL false l).1 then none else U) 0 (gL false l).1 (gL false l).2 [] := ⟨good_nil, fun e => by rw [if_pos e], fun e => by rw [if_neg (by rw [e]; decide), hU, Nat.sub_zero]⟩
  have HL : Hid (∀ x, x ∈ (gL false l).2 → x < 256) := Lib.hid (fun x hx => HRd.out.2 x (gL_mem hx))
  have HLL : Hid ((gL false l).2.length ≤ 900000) := Lib.hid (by have := gL_len (bad := false) (l := l); have := HLN.out; omega)
  have HA1 : Hid (∀ M, (if (gL false l).1 then none else U) = some M → packL M = l → ans l = some M) := Lib.hid fun M h hp => by
    cases hg : (gL false l).1 with
    | true => rw [hg] at h; cases h
    | false => rw [hg, if_neg (by decide), hU, hV] at h; exact ans_eq hg h hp
  have HA2 : Hid (∀ M, (if (gL false l).1 then none else U) = some M → packL M ≠ l → ans l = none) := Lib.hid fun M h hp => by
    cases hg : (gL false l).1 with
    | true => rw [hg] at h; cases h
    | false => rw [hg, if_neg (by decide), hU, hV] at h; exact ans_ne h hp
  have HA3 : Hid ((if (gL false l).1 then none else U) = none → ans l = none) := Lib.hid fun h => by
    cases hg : (gL false l).1 with
    | true => exact ans_bad hg
    | false => rw [hg, if_neg (by decide), hU, hV] at h; exact ans_none h
  obtain ⟨U2, hU2⟩ : ∃ U2, U2 = (if (gL false l).1 then none else U) := ⟨_, rfl⟩
  rw [← hU2] at HI0 HA1 HA2 HA3
  obtain ⟨bad0, hbad0⟩ : ∃ x, x = (gL false l).1 := ⟨_, rfl⟩
  obtain ⟨l0, hl0⟩ : ∃ x, x = (gL false l).2 := ⟨_, rfl⟩
  rw [← hbad0, ← hl0] at HI0 hrs3
  rw [← hl0] at HL HLL
  clear hU2 hbad0 hl0 hV hU hT2 hb2' hg hk3 hTl
  go_wp2_with fail
  go_loopg [7] (l0.length + 1) (fun g i wr => ∃ (k : Nat) (bad : Bool) (lr : List Nat) (M : List Pl), i = .int .i64 k ∧ (k : Int) ≤ max V 0 ∧ RS wr w.heap.size B bad lr ∧ Tb wr T b M ∧ Below w.heap.size w wr ∧ UInv V U2 k bad lr M ∧ (bad = false → lr.length + 1 ≤ g) ∧ lr.length ≤ 900000)
  case atStart => exact ⟨0, bad0, l0, [], rfl, by omega, hrs3, hT3, hb3, HI0, fun _ => Nat.le_refl _, HLL.out⟩
  case round =>
    clear hrs3 hT3 hb3 HI0
    obtain ⟨k, bad, lr, M, rfl, hkV, hrs, hT, hbr, hinv, hgk, hlr⟩ := hrel
    have hrs' := hrs
    obtain ⟨A1, n1, c1, ha, hr1, _, _, _, hlt1, _⟩ := hrs'
    have x1 := ha.at_ (i := 1) (v := .bool bad) rfl
    have y1 := ha.frozen 1
    clear hr1 ha
    by_cases hgo : (k : Int) < V ∧ bad = false
    · obtain ⟨hkv, rfl⟩ := hgo
      have hq := plan30 w.heap.size B lr wr hrs (by omega)
      have D1 : decide ((k : Int) < V) = true := decide_eq_true hkv
      go_wp2_with fail
      refine hq.mono ?_
      rintro e w5 ⟨rfl, hrs5, hk5⟩
      have hT5 := hT.kp hk5 (by omega) (by omega)
      have hb5 : Below w.heap.size w w5 := hbr.trans (hk5.below (by have := hT.lt; omega) (fun x hx e => by omega))
      obtain ⟨⟨pn, pf, pt, pr⟩, hP⟩ : ∃ p, p = rdP lr := ⟨_, rfl⟩
      have hpz : pn.size ≤ 1000000 := by have := rd_name lr; rw [← hP] at this; have : pn.size ≤ lr.length := this; omega
      have hlt1' : ∀ x, x ∈ lr → x < 256 := hlt1
      obtain ⟨bad1, hbad1⟩ : ∃ x, x = (rdS lr).1 := ⟨_, rfl⟩
      obtain ⟨l1, hl1⟩ : ∃ x, x = (rdS lr).2 := ⟨_, rfl⟩
      rw [← hP]
      rw [← hbad1, ← hl1] at hrs5
      unfold plv
      have hle1 : bad1 = false → l1.length < lr.length := fun e => by rw [hl1]; exact rd_lt hlt1' (by rw [← hbad1, e])
      have hle2 : l1.length ≤ 900000 := by rw [hl1]; have := rd_le lr; omega
      have ha5 := hrs5
      obtain ⟨A2, n2, c2, ha5, _⟩ := ha5
      have z1 := ha5.at_ (i := 1) (v := .bool bad1) rfl
      have z2 := ha5.frozen 1
      have z3 : w.heap.size < w5.heap.size := ha5.lt
      have hb6 : Below w.heap.size w (w5.alloc (.cells #[.string pn, .int .i64 pf, .int .i64 pt, .int .i64 pr] 27)) := hb5.alloc (by omega) _
      have hrs6 : RS (w5.alloc (.cells #[.string pn, .int .i64 pf, .int .i64 pt, .int .i64 pr] 27)) w.heap.size B bad1 l1 := hrs5.kp ((Kp.refl (fun _ => False) _).alloc _) (by omega) (fun h => h) (fun _ _ h => h)
      have hT6 : Tb (w5.alloc (.cells #[.string pn, .int .i64 pf, .int .i64 pt, .int .i64 pr] 27)) T b M := hT5.kp (S := fun _ => False) ((Kp.refl _ _).alloc _) (fun h => h) (fun h => h)
      have HIV := Lib.hid hinv
      have hkm : (k : Int) < 9223372036854775807 := by have := VgV_range l; have := HV.out.1; omega
      have HKV := Lib.hid (show ((k + 1 : Nat) : Int) ≤ max V 0 by omega)
      have HX := Lib.hid (And.intro hb6 (And.intro hrs6 hT6))
      have HY := Lib.hid (And.intro ((hb5.setCell (p := ⟨w.heap.size, 1, none⟩) (Nat.le_refl _) (.bool true)).alloc (by rw [World.size_setCell]; omega) (.cells #[.string pn, .int .i64 pf, .int .i64 pt, .int .i64 pr] 27))
        (And.intro ((hrs5.set1 hB true).kp ((Kp.refl (fun _ => False) _).alloc (.cells #[.string pn, .int .i64 pf, .int .i64 pt, .int .i64 pr] 27)) (by rw [World.size_setCell]; omega) (fun h => h) (fun _ _ h => h))
          ((hT5.kp (Kp.cell1 w5 w.heap.size 1 (.bool true)) (by omega) (by omega)).kp (S := fun _ => False) ((Kp.refl _ _).alloc (.cells #[.string pn, .int .i64 pf, .int .i64 pt, .int .i64 pr] 27)) (fun h => h) (fun h => h))))
      have HPP := Lib.hid (And.intro hP (And.intro hbad1 hl1))
      have HLE := Lib.hid (And.intro hle1 hle2)
      have hgk1 : 0 < gk := by have := hgk trivial; omega
      have HGK := Lib.hid hgk
      clear ha5 hq hk5 hlt1 hlt1' hb6 hrs6 hP hbad1 hl1 hinv hle1 hle2 hrs5 hb5 hT5 hrs hT hbr x1 y1 hgk
      cases bad1 with
      | true =>
        clear hT6
        go_wp2_with fail
        go_roundg 0
        case measure => exact hgk1
        case rel => exact ⟨k + 1, true, l1, M, by go_num, HKV.out, HY.out.2.1, HY.out.2.2, HY.out.1, HIV.out.bad hkv HIV.out.1 (fun h => by rw [rndB, ← HPP.out.2.1] at h; cases h.1), (fun h => by cases h), HLE.out.2⟩
      | false =>
        have hp := put10 T b pn pf pt pr M _ hT6 hpz (by have := HIV.out.1.len; omega)
        unfold PPost at hp
        have hT6l := hT6.lt
        have hQ6 := Arr.new w5 27 #[.string pn, .int .i64 pf, .int .i64 pt, .int .i64 pr]
        clear hT6 hQ6 HY
        go_wp2_with fail
        refine hp.mono ?_
        rintro e w7 ⟨rfl, hT7, hk7⟩
        have hrs7 := HX.out.2.1.kp hk7 (by simp; omega) (by omega) (fun x hx e => by omega)
        have hb7 := HX.out.1.trans (hk7.below (B := w.heap.size) (by simp; omega) (fun x hx e => by omega))
        have ha7 := hrs7
        obtain ⟨A3, n3, c3, ha7, _⟩ := ha7
        have z4 := ha7.at_ (i := 1) (v := .bool false) rfl
        have z5 := ha7.frozen 1
        have HZ := Lib.hid (And.intro hb7 (And.intro hrs7 hT7))
        by_cases hE : putE ⟨pn, pf, pt, pr⟩ M = 0
        · have HB : Hid (rndB lr M) := ⟨HPP.out.2.1.symm, by rw [← HPP.out.1]; exact hE⟩
          rw [hE]
          clear hE hp hT7 hk7 ha7 hrs7 hb7
          go_wp2_with fail
          go_roundg (l1.length + 1)
          case measure => have := HLE.out.1 trivial; have := HGK.out trivial; omega
          case rel =>
            refine ⟨k + 1, false, l1, putL ⟨pn, pf, pt, pr⟩ M, by go_num, HKV.out, HZ.out.2.1.set1 hB false, HZ.out.2.2.kp (Kp.cell1 _ w.heap.size 1 _) (by omega) (by omega), HZ.out.1.setCell (Nat.le_refl _) _, ?_, (fun _ => Nat.le_refl _), HLE.out.2⟩
            have := HIV.out.next hkv HB.out
            rwa [← HPP.out.1, ← HPP.out.2.2] at this
        · have HB : Hid (¬ rndB lr M) := fun h => hE (by have := h.2; rwa [← HPP.out.1] at this)
          have HM : Hid (Good (putL ⟨pn, pf, pt, pr⟩ M)) := putL_good HIV.out.1 _
          obtain ⟨E, hEE⟩ : ∃ E, E = putE ⟨pn, pf, pt, pr⟩ M := ⟨_, rfl⟩
          rw [← hEE] at hE ⊢
          have hE2 : (E != 0) = true := by simpa using hE
          have hE3 : (E == 0) = false := by simpa using hE
          clear hp hT7 hk7 ha7 hrs7 hb7 hEE hE
          go_wp2_with fail
          go_roundg 0
          case measure => exact hgk1
          case rel => exact ⟨k + 1, true, l1, putL ⟨pn, pf, pt, pr⟩ M, by go_num, HKV.out, HZ.out.2.1.set1 hB true, HZ.out.2.2.kp (Kp.cell1 _ w.heap.size 1 _) (by omega) (by omega), HZ.out.1.setCell (Nat.le_refl _) _, HIV.out.bad hkv HM.out HB.out, (fun h => by cases h), HLE.out.2⟩
    · have D1 : (bad = false → decide ((k : Int) < V) = false) := fun e => decide_eq_false (fun h => hgo ⟨h, e⟩)
      have HX := Lib.hid (And.intro hT hbr)
      have HIV := Lib.hid hinv
      cases bad with
      | true =>
        have hn : ans l = none := HA3.out (hinv.2.1 rfl)
        have HN := Lib.hid (UPost.none hn hbr)
        clear hn hinv hT hbr hrs hgk D1 hgo
        by_cases hkv : (k : Int) < V
        · have D2 : decide ((k : Int) < V) = true := decide_eq_true hkv
          go_wp2_with fail
          go_ret2
          exact HN.out
        · have D2 : decide ((k : Int) < V) = false := decide_eq_false hkv
          go_wp2_with fail
          go_ret2
          exact HN.out
      | false =>
        have D2 := D1 rfl
        have hU : U2 = some M := by
          have h1 := hinv.2.2 rfl
          have : ¬ (k : Int) < V := fun h => hgo ⟨h, rfl⟩
          rw [show V.toNat - k = 0 by omega] at h1
          exact h1.symm
        have hpk := pack24 T b M wr hT (by have := hinv.1.len; omega) hinv.1.ok
        have HU := Lib.hid hU
        clear hU hinv hT hbr hrs hgk D1 hgo
        go_wp2_with fail
        refine hpk.mono ?_
        rintro e w5 ⟨v, rfl, hown, hb5⟩
        obtain ⟨A5, c5, rfl, hr5, _⟩ := Rd.of_own hown
        have hb6 := HX.out.2.trans (hb5.mono HX.out.2.size)
        have heq := equal31 A5 A (packL M).length c5 n c _ B (packL M) l w5 hr5 (HRd.out.1.below (hb6.mono hB)) (packL_byte M) HRd.out.2
        have hT5 := HX.out.1.below hb5 HX.out.1.lt.1 HX.out.1.lt.2
        by_cases hp : packL M = l
        · have HN := Lib.hid (UPost.some (HA1.out M HU.out hp) hT5 (by omega) (by omega) hb6)
          rw [decide_eq_true hp] at heq
          obtain ⟨m, hm⟩ : ∃ m, m = (packL M).length := ⟨_, rfl⟩
          rw [← hm] at heq ⊢
          clear hp hT5 hb6 hr5 hown hb5 hpk hm
          go_wp2_with fail
          refine heq.mono ?_
          rintro e w6 ⟨rfl, hw6⟩
          rw [hw6]
          clear hw6 w6
          go_wp2_with fail
          go_ret2
          exact HN.out
        · have HN := Lib.hid (UPost.none (HA2.out M HU.out hp) hb6)
          rw [decide_eq_false hp] at heq
          obtain ⟨m, hm⟩ : ∃ m, m = (packL M).length := ⟨_, rfl⟩
          rw [← hm] at heq ⊢
          clear hp hT5 hb6 hr5 hown hb5 hpk hm
          go_wp2_with fail
          refine heq.mono ?_
          rintro e w6 ⟨rfl, hw6⟩
          rw [hw6]
          clear hw6 w6
          go_wp2_with fail
          go_ret2
          exact HN.out
end Go.Proofs.Ytghklmhmhekjgaa
