/- What ReadPlans answers: what Unpack answers. Conditions: at most 900,000 bytes, each below 256. -/
import Derived.Test.YtghklmhmhekjgaaRdp
import Derived.Test.YtghklmhmhekjgaaCut
import Derived.Test.YtghklmhmhekjgaaRput
import Derived.Test.YtghklmhmhekjgaaRpack
import Derived.Test.YtghklmhmhekjgaaUnpack
namespace Go.Proofs.Ytghklmhmhekjgaa
open Go.RowKit PC

def RRPost (w : World) (l : List Nat) (e : Ending) (w' : World) : Prop :=
  match ans l with
  | some M => ∃ v, e = .returned (.tuple #[v, .int .i64 0]) ∧ w'.ownsRow w.heap.size 27 4 v M.length (pvs M) ∧ Below w.heap.size w w'
  | none => e = .returned (.tuple #[.slice none 0 0, .int .i64 5]) ∧ Below w.heap.size w w'
theorem RRPost.none {w w' : World} {l : List Nat} (h : ans l = .none) (hb : Below w.heap.size w w') : RRPost w l (.returned (.tuple #[.slice .none 0 0, .int .i64 5])) w' := by
  unfold RRPost; rw [h]; exact ⟨rfl, hb⟩
theorem RRPost.some {w w' : World} {l : List Nat} {M : List Pl} {v : Value} (h : ans l = .some M) (hv : w'.ownsRow w.heap.size 27 4 v M.length (pvs M)) (hb : Below w.heap.size w w') :
    RRPost w l (.returned (.tuple #[v, .int .i64 0])) w' := by
  unfold RRPost; rw [h]; exact ⟨v, rfl, hv, hb⟩
theorem Pv.of_own' {w : World} {base m c : Nat} {A : Option Addr} {M : List Pl} (h : w.ownsRow base 27 4 (.slice A m c) m (pvs M)) : Pv w w.heap.size A m M := by
  obtain ⟨A', c', e, hp, _⟩ := Pv.of_own h
  injection e with e1 e2 e3
  subst e1
  exact hp
theorem own_len {w : World} {base m c : Nat} {A : Option Addr} {M : List Pl} (h : w.ownsRow base 27 4 (.slice A m c) m (pvs M)) : m = M.length := by
  have := h.1; rw [pvs_len] at this; omega
theorem ans_len {b : List Nat} {M : List Pl} (hM : M.length ≤ 100) (hp : packL M = b) : VgV b = M.length := by
  rw [← hp]
  unfold packL VgV
  rw [vget_put (by omega)]
  show wrap64 _ = _
  unfold wrap64
  omega
theorem ans_neg {b : List Nat} (h : VgV b < 0) : ans b = none := by
  have hu : upk (VgV b).toNat (gL false b).2 [] = some [] := by rw [show (VgV b).toNat = 0 by omega]; rfl
  refine ans_ne hu fun e => ?_
  rw [← e] at h
  rw [ans_len (M := []) (by simp) rfl] at h
  simp at h
theorem ans_many {b : List Nat} (h : 100 < VgV b) : ans b = none := by
  cases hu : upk (VgV b).toNat (gL false b).2 [] with
  | none => exact ans_none hu
  | some M =>
    refine ans_ne hu fun e => ?_
    have hl := (upk_good good_nil hu).len
    rw [← e] at h
    unfold packL at h
    have hv : VgV (vput M.length ++ M.flatMap pk1) = M.length := by
      unfold VgV
      rw [vget_put (by omega)]
      show wrap64 _ = _
      unfold wrap64
      omega
    rw [hv] at h
    omega
theorem putp_len (p : Pl) {M : List Pl} (h : Ris M) : (putp p M).length ≤ M.length + 1 := by
  cases hh : hasp p.nm M with
  | false => rw [length_put_new hh]; exact Nat.le_refl _
  | true => rw [length_put_old h hh]; omega
set_option maxRecDepth 100000 in
set_option maxHeartbeats 4000000 in
theorem rread15 (A : Option Addr) (n c B : Nat) (l : List Nat) (w : World) (hr : Rd w B A n (l.map bv)) (hnc : n ≤ c) (_ : c ≤ maxLen) (hn : n ≤ 900000) (hlt : ∀ x ∈ l, x < 256) (hB : B ≤ w.heap.size) :
    Calls Try.prog 15 #[.slice A n c] w (RRPost w l) := by
  have hln := hr.blen
  have hq := rvint_get A n c B l w hr (by omega) hlt
  unfold VgPost at hq
  have HRd := Lib.hid (And.intro hr (And.intro hlt hln))
  obtain ⟨V, hV⟩ : ∃ V, V = VgV l := ⟨_, rfl⟩
  obtain ⟨d0, hd0⟩ : ∃ d0, gK l = d0 := ⟨_, rfl⟩
  have hd0n : d0 ≤ n := by rw [← hd0, ← hln]; exact gK_le hlt
  rw [gK_cast, hd0, ← hV] at hq
  rcases VgE_two l with hE | hE
  · rw [hE] at hq
    by_cases hbad : V < 0 ∨ 100 < V
    · have HN : Hid (ans l = none) := by
        rcases hbad with h | h
        · exact ans_neg (by rw [← hV]; exact h)
        · exact ans_many (by rw [← hV]; exact h)
      clear hr hlt hln hd0 hE hV
      rcases hbad with h | h
      · have D1 : decide (V < 0) = true := decide_eq_true h
        go_enter Try.func15, Try.ntmps15
        go_wp2_with fail
        refine hq.mono ?_
        rintro e w1 ⟨rfl, hw1⟩
        rw [hw1]
        clear hw1 w1
        go_wp2_with fail
        go_ret2
        exact .none HN.out (Below.refl _ _)
      · have D1 : decide (V < 0) = false := decide_eq_false (by omega)
        have D2 : decide (100 < V) = true := decide_eq_true h
        go_enter Try.func15, Try.ntmps15
        go_wp2_with fail
        refine hq.mono ?_
        rintro e w1 ⟨rfl, hw1⟩
        rw [hw1]
        clear hw1 w1
        go_wp2_with fail
        go_ret2
        exact .none HN.out (Below.refl _ _)
    · obtain ⟨N, rfl⟩ : ∃ N : Nat, V = N := ⟨V.toNat, by omega⟩
      have hN : N ≤ 100 := by omega
      have D1 : decide ((N : Int) < 0) = false := decide_eq_false (by omega)
      have D2 : decide (100 < (N : Int)) = false := decide_eq_false (by omega)
      obtain ⟨U, hU⟩ : ∃ U, upk N (l.drop d0) [] = U := ⟨_, rfl⟩
      have HA1 : Hid (∀ M, U = some M → packL M = l → ans l = some M) := Lib.hid fun M h hp =>
        ans_eq (by rw [gL_fst, hE]; rfl) (by rw [gL_snd, ← hV, hd0, Int.toNat_natCast, hU]; exact h) hp
      have HA2 : Hid (∀ M, U = some M → packL M ≠ l → ans l = none) := Lib.hid fun M h hp =>
        ans_ne (by rw [gL_snd, ← hV, hd0, Int.toNat_natCast, hU]; exact h) hp
      have HA3 : Hid (U = none → ans l = none) := Lib.hid fun h =>
        ans_none (by rw [gL_snd, ← hV, hd0, Int.toNat_natCast, hU]; exact h)
      have HV := Lib.hid hV
      have HU := Lib.hid hU
      clear hr hlt hln hd0 hE hV hU hbad
      go_enter Try.func15, Try.ntmps15
      go_wp2_with fail
      refine hq.mono ?_
      rintro e w1 ⟨rfl, hw1⟩
      rw [hw1]
      clear hw1 w1 hq
      go_wp2_with fail
      have HR1 : Hid (Rt (w.alloc (.cells #[.slice none 0 0] 46)) w.heap.size (w.heap.size + 1) []) := ⟨none, 0, 0, Arr.new w 46 _, World.ownsRow_nil _ _ _ _⟩
      have HB1 : Hid (Below w.heap.size w (w.alloc (.cells #[.slice none 0 0] 46))) := (Below.refl _ _).alloc (Nat.le_refl _) _
      go_loopw [5, 8] (fun at_ i wr => ∃ (a k : Nat) (M : List Pl), at_ = .int .i64 a ∧ i = .int .i64 k ∧ a ≤ n ∧ k ≤ N ∧ Rt wr w.heap.size (w.heap.size + 1) M ∧ Below w.heap.size w wr ∧ Good M ∧ M.length ≤ k ∧ Hid (upk (N - k) (l.drop a) M = U)) (fun _ i _ => N - (intOf i).toNat)
      case atStart => exact ⟨d0, 0, [], rfl, rfl, hd0n, Nat.zero_le _, HR1.out, HB1.out, good_nil, Nat.le_refl _, HU.out⟩
      case round =>
        obtain ⟨a, k, M, rfl, rfl, han, hkN, hR, hb, hgood, hMk, hup⟩ := hrel
        clear HR1 HB1
        have haP := hR
        obtain ⟨Am, mm, cm, haP, hownP⟩ := haP
        have cP := haP.at_ (i := 0) (v := .slice Am mm cm) rfl
        have HRT := Lib.hid (And.intro hR (And.intro hb (And.intro hgood (And.intro haP hownP))))
        have hML : mm = M.length := own_len hownP
        have hM100 : M.length ≤ 100 := hgood.len
        have hsz := hb.size
        by_cases hgo : k < N
        · have D3 : (k : Int) < (N : Int) := by omega
          obtain ⟨lr, hlr⟩ : ∃ lr, l.drop a = lr := ⟨_, rfl⟩
          have hlrb : ∀ x, x ∈ lr → x < 256 := fun x hx => HRd.out.2.1 x (by rw [← hlr] at hx; exact List.mem_of_mem_drop hx)
          have hlrn : lr.length = n - a := by rw [← hlr, List.length_drop, HRd.out.2.2]
          have hrw : Rd wr B A n (l.map bv) := HRd.out.1.below (hb.mono hB)
          obtain ⟨A1, c1, hs1, hr1, _⟩ := cut_from (c := c) hrw han hnc
          rw [hlr] at hr1
          have hq1 := rvint_get A1 (n - a) c1 B lr wr hr1 (by omega) hlrb
          unfold VgPost at hq1
          obtain ⟨d1, hd1⟩ : ∃ d1, gK lr = d1 := ⟨_, rfl⟩
          have hd1n : d1 ≤ n - a := by rw [← hd1, ← hlrn]; exact gK_le hlrb
          obtain ⟨V1, hV1⟩ : ∃ V1, VgV lr = V1 := ⟨_, rfl⟩
          rw [gK_cast, hd1, hV1] at hq1
          have HLR := Lib.hid (And.intro hlr (And.intro hlrb (And.intro hlrn (And.intro hd1 hV1))))
          have hrnd : (¬ rndB lr M) → ans l = none := fun h => HA3.out (by have := hup.out; rw [hlr, upk_no h (by omega)] at this; exact this.symm)
          have z0 : (0 : Int) ≤ (a : Int) := by omega
          have z1 : (a : Int) ≤ (n : Int) := by omega
          have z2 : (a : Int) ≤ (c : Int) := by omega
          rcases VgE_two lr with hE1 | hE1
          · rw [hE1] at hq1
            by_cases hv : V1 < 0 ∨ 64 < V1 ∨ ((n - a - d1 : Nat) : Int) < V1
            · have hno : ans l = none := hrnd (by
                rcases hv with h | h | h
                · exact rnd_neg (by rw [hV1]; exact h)
                · exact rnd_long (by rw [hV1]; exact h)
                · exact rnd_past (by rw [hlrn, hd1, hV1]; exact h))
              have HN := Lib.hid (RRPost.none hno hb)
              clear hrnd hno hr1 hrw hlr hlrb hlrn hd1 hV1 hE1 hR hb hgood haP hownP hup HRT
              by_cases h1 : V1 < 0
              · have D4 : decide (V1 < 0) = true := decide_eq_true h1
                go_wp2_with fail
                refine hq1.mono ?_
                rintro e w1 ⟨rfl, hw1⟩
                rw [hw1]
                clear hw1 w1
                go_wp2_with fail
                go_ret2
                exact HN.out
              · have D4 : decide (V1 < 0) = false := decide_eq_false h1
                by_cases h2 : 64 < V1
                · have D5 : decide (64 < V1) = true := decide_eq_true h2
                  go_wp2_with fail
                  refine hq1.mono ?_
                  rintro e w1 ⟨rfl, hw1⟩
                  rw [hw1]
                  clear hw1 w1
                  go_wp2_with fail
                  go_ret2
                  exact HN.out
                · have D5 : decide (64 < V1) = false := decide_eq_false h2
                  have h3 : (n : Int) - (a : Int) - (d1 : Int) < V1 := by omega
                  have D6 : decide ((n : Int) - (a : Int) - (d1 : Int) < V1) = true := decide_eq_true h3
                  have z3 : (a : Int) + (d1 : Int) ≤ (n : Int) := by omega
                  clear h3
                  go_wp2_with fail
                  refine hq1.mono ?_
                  rintro e w1 ⟨rfl, hw1⟩
                  rw [hw1]
                  clear hw1 w1
                  go_wp2_with fail
                  go_ret2
                  exact HN.out
            · obtain ⟨kk, rfl⟩ : ∃ kk : Nat, V1 = kk := ⟨V1.toNat, by omega⟩
              have hkk : kk ≤ 64 := by omega
              have D4 : decide ((kk : Int) < 0) = false := decide_eq_false (by omega)
              have D5 : decide (64 < (kk : Int)) = false := decide_eq_false (by omega)
              have D6 : decide ((n : Int) - (a : Int) - (d1 : Int) < (kk : Int)) = false := decide_eq_false (by omega)
              obtain ⟨p1, hp1⟩ : ∃ p1, a + d1 = p1 := ⟨_, rfl⟩
              obtain ⟨p2, hp2⟩ : ∃ p2, p1 + kk = p2 := ⟨_, rfl⟩
              have C1 : (a : Int) + (d1 : Int) = (p1 : Int) := by omega
              have C2 : (p1 : Int) + (kk : Int) = (p2 : Int) := by omega
              have hp2n : p2 ≤ n := by omega
              obtain ⟨A2, c2, hs2, hcv⟩ := cut_str (c := c) (m := p2) (k := p1) hrw (by omega) hp2n hnc
              rw [show p2 - p1 = kk by omega] at hs2 hcv
              obtain ⟨s, hs⟩ : ∃ s, strN ((l.drop p1).take kk) = s := ⟨_, rfl⟩
              rw [hs] at hcv
              obtain ⟨w2, hw2⟩ : ∃ w2, wr.alloc (.cells #[.string s, .int .i64 0, .int .i64 0, .int .i64 0] 27) = w2 := ⟨_, rfl⟩
              have hrw2 : Rd w2 B A n (l.map bv) := by rw [← hw2]; exact hrw.keep fun x hx => Below.heap_alloc wr _ x (by omega)
              obtain ⟨l2, hl2⟩ : ∃ l2, l.drop p2 = l2 := ⟨_, rfl⟩
              have hl2b : ∀ x, x ∈ l2 → x < 256 := fun x hx => HRd.out.2.1 x (by rw [← hl2] at hx; exact List.mem_of_mem_drop hx)
              have hl2n : l2.length = n - p2 := by rw [← hl2, List.length_drop, HRd.out.2.2]
              obtain ⟨A3, c3, hs3, hr3, _⟩ := cut_from (c := c) hrw2 hp2n hnc
              rw [hl2] at hr3
              have hq2 := rgetsigned33 A3 (n - p2) c3 B l2 w2 hr3 (by omega) hl2b
              unfold SgPost at hq2
              obtain ⟨d2, hd2⟩ : ∃ d2, gK l2 = d2 := ⟨_, rfl⟩
              have hd2n : d2 ≤ n - p2 := by rw [← hd2, ← hl2n]; exact gK_le hl2b
              obtain ⟨F, hF⟩ : ∃ F, SgV l2 = F := ⟨_, rfl⟩
              rw [gK_cast, hd2, hF] at hq2
              obtain ⟨p3, hp3⟩ : ∃ p3, p2 + d2 = p3 := ⟨_, rfl⟩
              have C3 : (p2 : Int) + (d2 : Int) = (p3 : Int) := by omega
              have hp3n : p3 ≤ n := by omega
              obtain ⟨l3, hl3⟩ : ∃ l3, l.drop p3 = l3 := ⟨_, rfl⟩
              have hl3b : ∀ x, x ∈ l3 → x < 256 := fun x hx => HRd.out.2.1 x (by rw [← hl3] at hx; exact List.mem_of_mem_drop hx)
              have hl3n : l3.length = n - p3 := by rw [← hl3, List.length_drop, HRd.out.2.2]
              obtain ⟨A4, c4, hs4, hr4, _⟩ := cut_from (c := c) hrw2 hp3n hnc
              rw [hl3] at hr4
              have hq3 := rgetsigned33 A4 (n - p3) c4 B l3 w2 hr4 (by omega) hl3b
              unfold SgPost at hq3
              obtain ⟨d3, hd3⟩ : ∃ d3, gK l3 = d3 := ⟨_, rfl⟩
              have hd3n : d3 ≤ n - p3 := by rw [← hd3, ← hl3n]; exact gK_le hl3b
              obtain ⟨G, hG⟩ : ∃ G, SgV l3 = G := ⟨_, rfl⟩
              rw [gK_cast, hd3, hG] at hq3
              obtain ⟨p4, hp4⟩ : ∃ p4, p3 + d3 = p4 := ⟨_, rfl⟩
              have C4 : (p3 : Int) + (d3 : Int) = (p4 : Int) := by omega
              have hp4n : p4 ≤ n := by omega
              obtain ⟨l4, hl4⟩ : ∃ l4, l.drop p4 = l4 := ⟨_, rfl⟩
              have hl4b : ∀ x, x ∈ l4 → x < 256 := fun x hx => HRd.out.2.1 x (by rw [← hl4] at hx; exact List.mem_of_mem_drop hx)
              have hl4n : l4.length = n - p4 := by rw [← hl4, List.length_drop, HRd.out.2.2]
              obtain ⟨A5, c5, hs5, hr5, _⟩ := cut_from (c := c) hrw2 hp4n hnc
              rw [hl4] at hr5
              have hq4 := rvint_get A5 (n - p4) c5 B l4 w2 hr5 (by omega) hl4b
              unfold VgPost at hq4
              obtain ⟨d4, hd4⟩ : ∃ d4, gK l4 = d4 := ⟨_, rfl⟩
              have hd4n : d4 ≤ n - p4 := by rw [← hd4, ← hl4n]; exact gK_le hl4b
              obtain ⟨H, hH⟩ : ∃ H, VgV l4 = H := ⟨_, rfl⟩
              rw [gK_cast, hd4, hH] at hq4
              obtain ⟨p5, hp5⟩ : ∃ p5, p4 + d4 = p5 := ⟨_, rfl⟩
              have C5 : (p4 : Int) + (d4 : Int) = (p5 : Int) := by omega
              have hp5n : p5 ≤ n := by omega
              obtain ⟨hrp, hrs⟩ := rd_good (l := lr) (l2 := l2) (l3 := l3) (l4 := l4) (l5 := l.drop p5) (k := kk) hE1 hV1 (by rw [hlrn, hd1]; omega) (by rw [hd1, ← hl2, ← hlr, List.drop_drop]; congr 1; omega) (by rw [← hl3, ← hl2, ← hp3, ← List.drop_drop, hl2, hd2]) (by rw [← hl4, ← hl3, ← hp4, ← List.drop_drop, hl3, hd3]) (by rw [← hl4, ← hp5, ← List.drop_drop, hl4, hd4])
              rw [hd1, hF, hG, hH, show (lr.drop d1).take kk = (l.drop p1).take kk by rw [← hlr, List.drop_drop, hp1], hs] at hrp
              have hbx : ∀ X : Obj, Below w.heap.size w (wr.alloc X) := fun X => hb.alloc hsz X
              have HBX := Lib.hid hbx
              have HNO := Lib.hid hrnd
              have HRP := Lib.hid (And.intro hrp hrs)
              have hB2 : Arr w2 wr.heap.size 27 #[.string s, .int .i64 0, .int .i64 0, .int .i64 0] := by rw [← hw2]; exact Arr.new wr 27 _
              have hR2 : Rt w2 w.heap.size (w.heap.size + 1) M := by rw [← hw2]; exact hR.kp (S := fun _ => False) ((Kp.refl _ _).alloc _) (fun h => h) (fun _ _ h => h)
              have hb2 : Below w.heap.size w w2 := by rw [← hw2]; exact hb.alloc hsz _
              have HW2 := Lib.hid (And.intro hB2 (And.intro hR2 hb2))
              have hwlt : w.heap.size < wr.heap.size := by obtain ⟨_, _, _, h, _⟩ := hR; exact h.lt
              have hs2z : w2.heap.size = wr.heap.size + 1 := by rw [← hw2]; simp
              have HS2 := Lib.hid hs2z
              have hssz : s.size ≤ 64 := by rw [← hs, strN_size, List.length_take]; omega
              have z3 : (a : Int) + (d1 : Int) ≤ (n : Int) := by omega
              have z4 : (0 : Int) ≤ (p1 : Int) := by omega
              have z5 : (p1 : Int) ≤ (n : Int) := by omega
              have z6 : (p2 : Int) ≤ (n : Int) := by omega
              have z7 : (p3 : Int) ≤ (n : Int) := by omega
              have z8 : (p4 : Int) ≤ (n : Int) := by omega
              have z9 : (p5 : Int) ≤ (n : Int) := by omega
              have hcast : True := trivial
              have HFIN : Hid (rndB lr M → upk (N - (k + 1)) (l.drop p5) (putL ⟨s, F, G, H⟩ M) = U) := Lib.hid fun h => by
                have h0 := hup.out
                rw [hlr, upk_go h (by omega), hrs, hrp] at h0
                rw [show N - (k + 1) = N - k - 1 by omega]
                exact h0
              have HRB : Hid (∀ b1 b2 b3 : Bool, decide (VgE l2 = 5) = b1 → decide (VgE l3 = 5) = b2 → decide (VgE l4 = 5) = b3 → (rndB lr M ↔ (b1 || b2 || b3) = false ∧ putE ⟨s, F, G, H⟩ M = 0)) := Lib.hid fun b1 b2 b3 e1 e2 e3 => by
                unfold rndB
                rw [hrp, hrs, e1, e2, e3]
              clear hbx hrnd hrp hrs hB2 hR2 hb2 hs2z hcast hr1 hrw hlr hlrb hlrn hd1 hV1 hE1 hR hb hgood haP hownP hup hs hrw2 hl2 hl2b hl2n hr3 hd2 hF hl3 hl3b hl3n hr4 hd3 hG hl4 hl4b hl4n hr5 hd4 hH hv hp1 hp2 hp3 hp4 hp5
              rcases VgE_two l2 with h2 | h2
              · rcases VgE_two l3 with h3 | h3
                · rcases VgE_two l4 with h4 | h4
                  · rw [h2] at hq2
                    rw [h3] at hq3
                    rw [h4] at hq4
                    have HRN : Hid (rndB lr M ↔ putE ⟨s, F, G, H⟩ M = 0) := Lib.hid (by
                      have := HRB.out false false false (by rw [h2]; rfl) (by rw [h3]; rfl) (by rw [h4]; rfl)
                      rw [this]; simp)
                    have hR3 : Rt (wr.alloc (.cells #[.string s, .int .i64 F, .int .i64 G, .int .i64 H] 27)) w.heap.size (w.heap.size + 1) M := HRT.out.1.kp (S := fun _ => False) ((Kp.refl _ _).alloc _) (fun h => h) (fun _ _ h => h)
                    have hp := rput18 w.heap.size (w.heap.size + 1) s F G H M _ hR3 (by simp; omega) (by omega) (by omega) HRT.out.2.2.1.ris
                    unfold RPPost at hp
                    have hb3 : Below w.heap.size w (wr.alloc (.cells #[.string s, .int .i64 F, .int .i64 G, .int .i64 H] 27)) := HBX.out _
                    have HB3 := Lib.hid hb3
                    clear h2 h3 h4 hR3 hb3
                    subst hw2
                    go_wp2_with fail
                    refine hq1.mono ?_
                    rintro e w1 ⟨rfl, hw1⟩
                    rw [hw1]
                    clear hw1 w1
                    go_wp2_with fail
                    refine hq2.mono ?_
                    rintro e w1 ⟨rfl, hw1⟩
                    rw [hw1]
                    clear hw1 w1
                    go_wp2_with fail
                    refine hq3.mono ?_
                    rintro e w1 ⟨rfl, hw1⟩
                    rw [hw1]
                    clear hw1 w1
                    go_wp2_with fail
                    refine hq4.mono ?_
                    rintro e w1 ⟨rfl, hw1⟩
                    rw [hw1]
                    clear hw1 w1 hq1 hq2 hq3 hq4
                    go_wp2_with fail
                    refine hp.mono ?_
                    clear hp
                    rintro e w7 ⟨rfl, hR7, hk7⟩
                    have hb7 : Below w.heap.size w w7 := HB3.out.trans (hk7.below (by simp; omega) (fun x hx e => by omega))
                    have HX := Lib.hid (And.intro hR7 hb7)
                    clear hR7 hb7 hk7
                    by_cases hE7 : putE ⟨s, F, G, H⟩ M = 0
                    · obtain ⟨_, hpl, hg2⟩ := good_put HRT.out.2.2.1 hE7
                      have HG2 := Lib.hid (And.intro hpl (And.intro hg2 (HFIN.out (HRN.out.2 hE7))))
                      have hlen : (putp ⟨s, F, G, H⟩ M).length ≤ k + 1 := by have := putp_len ⟨s, F, G, H⟩ HRT.out.2.2.1.ris; omega
                      have HLEN := Lib.hid hlen
                      clear hpl hg2 hlen
                      rw [hE7]
                      clear hE7
                      go_wp2_with fail
                      go_roundw
                      case rel => exact ⟨p5, k + 1, putL ⟨s, F, G, H⟩ M, rfl, by go_num, hp5n, by omega, HX.out.1, HX.out.2, by rw [HG2.out.1]; exact HG2.out.2.1, by rw [HG2.out.1]; exact HLEN.out, HG2.out.2.2⟩
                      case measure => simp [intOf]; omega
                    · have HN := Lib.hid (RRPost.none (HNO.out fun h => hE7 (HRN.out.1 h)) HX.out.2)
                      obtain ⟨E, hEE⟩ : ∃ E, E = putE ⟨s, F, G, H⟩ M := ⟨_, rfl⟩
                      rw [← hEE] at hE7 ⊢
                      have hE2 : (E != 0) = true := by simpa using hE7
                      have hE3 : (E == 0) = false := by simpa using hE7
                      clear hEE hE7
                      go_wp2_with fail
                      go_ret2
                      exact HN.out
                  · rw [h2] at hq2
                    rw [h3] at hq3
                    rw [h4] at hq4
                    have HBAD : Hid (ans l = none) := Lib.hid (HNO.out fun h => by have := ((HRB.out _ _ true rfl rfl (decide_eq_true h4)).1 h).1; simp at this)
                    clear h2 h3 h4
                    subst hw2
                    go_wp2_with fail
                    refine hq1.mono ?_
                    rintro e w1 ⟨rfl, hw1⟩
                    rw [hw1]
                    clear hw1 w1
                    go_wp2_with fail
                    refine hq2.mono ?_
                    rintro e w1 ⟨rfl, hw1⟩
                    rw [hw1]
                    clear hw1 w1
                    go_wp2_with fail
                    refine hq3.mono ?_
                    rintro e w1 ⟨rfl, hw1⟩
                    rw [hw1]
                    clear hw1 w1
                    go_wp2_with fail
                    refine hq4.mono ?_
                    rintro e w1 ⟨rfl, hw1⟩
                    rw [hw1]
                    clear hw1 w1 hq1 hq2 hq3 hq4
                    go_wp2_with fail
                    go_ret2
                    exact .none HBAD.out (HBX.out _)
                · rw [h2] at hq2
                  rw [h3] at hq3
                  have HBAD : Hid (ans l = none) := Lib.hid (HNO.out fun h => by have := ((HRB.out _ true _ rfl (decide_eq_true h3) rfl).1 h).1; simp at this)
                  clear h2 h3
                  subst hw2
                  go_wp2_with fail
                  refine hq1.mono ?_
                  rintro e w1 ⟨rfl, hw1⟩
                  rw [hw1]
                  clear hw1 w1
                  go_wp2_with fail
                  refine hq2.mono ?_
                  rintro e w1 ⟨rfl, hw1⟩
                  rw [hw1]
                  clear hw1 w1
                  go_wp2_with fail
                  refine hq3.mono ?_
                  rintro e w1 ⟨rfl, hw1⟩
                  rw [hw1]
                  clear hw1 w1
                  go_wp2_with fail
                  refine hq4.mono ?_
                  rintro e w1 ⟨rfl, hw1⟩
                  rw [hw1]
                  clear hw1 w1 hq1 hq2 hq3 hq4
                  go_wp2_with fail
                  go_ret2
                  exact .none HBAD.out (HBX.out _)
              · rw [h2] at hq2
                have HBAD : Hid (ans l = none) := Lib.hid (HNO.out fun h => by have := ((HRB.out true _ _ (decide_eq_true h2) rfl rfl).1 h).1; simp at this)
                clear h2
                subst hw2
                go_wp2_with fail
                refine hq1.mono ?_
                rintro e w1 ⟨rfl, hw1⟩
                rw [hw1]
                clear hw1 w1
                go_wp2_with fail
                refine hq2.mono ?_
                rintro e w1 ⟨rfl, hw1⟩
                rw [hw1]
                clear hw1 w1
                go_wp2_with fail
                refine hq3.mono ?_
                rintro e w1 ⟨rfl, hw1⟩
                rw [hw1]
                clear hw1 w1
                go_wp2_with fail
                refine hq4.mono ?_
                rintro e w1 ⟨rfl, hw1⟩
                rw [hw1]
                clear hw1 w1 hq1 hq2 hq3 hq4
                go_wp2_with fail
                go_ret2
                exact .none HBAD.out (HBX.out _)
          · rw [hE1] at hq1
            have HN := Lib.hid (RRPost.none (hrnd (rnd_e1 hE1)) hb)
            clear hrnd hr1 hrw hlr hlrb hlrn hd1 hV1 hE1 hR hb hgood haP hownP hup HRT
            go_wp2_with fail
            refine hq1.mono ?_
            rintro e w1 ⟨rfl, hw1⟩
            rw [hw1]
            clear hw1 w1
            go_wp2_with fail
            go_ret2
            exact HN.out
        · obtain rfl : k = N := by omega
          have hU : U = some M := by have := hup.out; rw [Nat.sub_self] at this; exact this.symm
          have D3 : decide ((k : Int) < (k : Int)) = false := decide_eq_false (by omega)
          by_cases hMN : M.length = k
          · have hpk := rpack25 Am mm cm M wr.drew (Pv.of_own' hownP) (by omega) hgood.ok
            have HCV : Hid ((convert 36 9 (.slice A n c)).run Try.prog wr.drew = .ok (.string (strN l)) wr.drew ∧ wr.drew.cell? ⟨w.heap.size, 0, none⟩ = some (.slice Am mm cm)) := ⟨conv_rd (Rd.below (w' := wr.drew) HRd.out.1 ((hb.mono hB).drew)), cP⟩
            have HAFT : Hid (∀ w5, Below wr.drew.heap.size wr.drew w5 → (convert 36 9 (.slice A n c)).run Try.prog w5 = .ok (.string (strN l)) w5 ∧ w5.cell? ⟨w.heap.size, 0, none⟩ = some (.slice Am mm cm)) := Lib.hid fun w5 h5 =>
              ⟨conv_rd (Rd.below HRd.out.1 ((hb.drew.trans (h5.mono hsz)).mono hB)), (h5.cell (p := ⟨w.heap.size, 0, none⟩) (by obtain ⟨_, _, _, h, _⟩ := hR; exact h.lt)).trans cP⟩
            have D7 : ((mm : Int) == (k : Int)) = true := by simp; omega
            have D8 : decide ((mm : Int) = (k : Int)) = true := decide_eq_true (by omega)
            have D9 : ((mm : Int) != (k : Int)) = false := by simp; omega
            have D11 : (mm == k) = true := by simp; omega
            have D12 : decide (mm = k) = true := decide_eq_true (by omega)
            have D13 : (mm != k) = false := by simp; omega
            have HML := Lib.hid (And.intro hML hMN)
            have HBM := Lib.hid hb.drew
            have HRTT : Hid (Rt wr.drew w.heap.size (w.heap.size + 1) M) := Lib.hid (hR.kp (S := fun _ => False) (Kp.refl _ _).drew (fun h => h) (fun _ _ h => h))
            have HU2 := Lib.hid hU
            clear hML hMN hU hb hgood haP hownP hup hR
            go_wp2_with fail
            refine wp_region_held_drew (S := fun w' => (convert 36 9 (.slice A n c)).run Try.prog w' = .ok (.string (strN l)) w' ∧ w'.cell? ⟨w.heap.size, 0, none⟩ = some (.slice Am mm cm)) (by kernel_rfl) ⟨HCV.out.1, HCV.out.2⟩ (fun hHeld => ?_)
            refine wpAnyH_take (i := 0) (oi := _) (v := ?_) (by rw [List.getElem?_toArray]; rfl) (by kernel_rfl) (by kernel_rfl) (by kernel_rfl) (by exact fun _ _ _ h => h) (Or.inl ⟨by rfl, ?_⟩) (by assumption) ?_
            rotate_left
            · (intro w9 hSw; (try dsimp only at hSw); go_simp; first | done | with_reducible rfl)
            try simp only [Act.put, List.setIfInBounds_toArray, List.set_cons_zero, List.set_cons_succ]
            refine wpAnyH_take (i := 1) (oi := _) (v := ?_) (by rw [List.getElem?_toArray]; rfl) (by kernel_rfl) (by kernel_rfl) (by kernel_rfl) (by exact fun _ _ _ h => h) (Or.inl ⟨by rfl, ?_⟩) (by assumption) ?_
            rotate_left
            · (intro w9 hSw; (try dsimp only at hSw); go_simp; first | done | with_reducible rfl)
            try simp only [Act.put, List.setIfInBounds_toArray, List.set_cons_zero, List.set_cons_succ]
            refine wpAnyH_take (i := 2) (oi := _) (v := ?_) (by rw [List.getElem?_toArray]; rfl) (by kernel_rfl) (by kernel_rfl) (by kernel_rfl) (by exact fun _ _ _ h => h) (Or.inl ⟨by rfl, ?_⟩) (by assumption) ?_
            rotate_left
            · (intro w9 hSw; (try dsimp only at hSw); go_simp; first | done | with_reducible rfl)
            try simp only [Act.put, List.setIfInBounds_toArray, List.set_cons_zero, List.set_cons_succ]
            refine wpAnyH_take (i := 3) (oi := _) (v := ?_) (by rw [List.getElem?_toArray]; rfl) (by kernel_rfl) (by kernel_rfl) (by kernel_rfl) (by exact fun _ _ _ h => h) (Or.inl ⟨by rfl, ?_⟩) (by assumption) ?_
            rotate_left
            · (intro w9 hSw; (try dsimp only at hSw); go_simp; first | done | with_reducible rfl)
            try simp only [Act.put, List.setIfInBounds_toArray, List.set_cons_zero, List.set_cons_succ]
            refine wpAnyH_take (i := 4) (oi := _) (v := ?_) (by rw [List.getElem?_toArray]; rfl) (by kernel_rfl) (by kernel_rfl) (by kernel_rfl) (by exact fun _ _ _ h => h) (Or.inl ⟨by rfl, ?_⟩) (by assumption) ?_
            rotate_left
            · (intro w9 hSw; (try dsimp only at hSw); go_simp; first | done | with_reducible rfl)
            try simp only [Act.put, List.setIfInBounds_toArray, List.set_cons_zero, List.set_cons_succ]
            refine wpAnyH_take (i := 5) (oi := _) (v := ?_) (by rw [List.getElem?_toArray]; rfl) (by kernel_rfl) (by kernel_rfl) (by kernel_rfl) (by exact fun _ _ _ h => h) (Or.inl ⟨by rfl, ?_⟩) (by assumption) ?_
            rotate_left
            · (intro w9 hSw; (try dsimp only at hSw); go_simp; first | done | with_reducible rfl)
            try simp only [Act.put, List.setIfInBounds_toArray, List.set_cons_zero, List.set_cons_succ]
            refine wpAnyH_take (i := 6) (oi := _) (v := ?_) (by rw [List.getElem?_toArray]; rfl) (by kernel_rfl) (by kernel_rfl) (by kernel_rfl) (by exact fun _ _ _ h => h) (Or.inl ⟨by rfl, ?_⟩) (by assumption) ?_
            rotate_left
            · (intro w9 hSw; (try dsimp only at hSw); go_simp; first | done | with_reducible rfl)
            try simp only [Act.put, List.setIfInBounds_toArray, List.set_cons_zero, List.set_cons_succ]
            refine wpAnyH_take (i := 7) (oi := _) (v := ?_) (by rw [List.getElem?_toArray]; rfl) (by kernel_rfl) (by kernel_rfl) (by kernel_rfl) (by exact fun _ _ _ h => h) (Or.inl ⟨by rfl, ?_⟩) (by assumption) ?_
            rotate_left
            · (intro w9 hSw; (try dsimp only at hSw); go_simp; first | done | with_reducible rfl)
            try simp only [Act.put, List.setIfInBounds_toArray, List.set_cons_zero, List.set_cons_succ]
            refine wpAnyH_take (i := 8) (oi := _) (v := ?_) (by rw [List.getElem?_toArray]; rfl) (by kernel_rfl) (by kernel_rfl) (by kernel_rfl) (by exact fun _ _ _ h => h) (Or.inl ⟨by rfl, ?_⟩) (by assumption) ?_
            rotate_left
            · (intro w9 hSw; (try dsimp only at hSw); go_simp; first | done | with_reducible rfl)
            try simp only [Act.put, List.setIfInBounds_toArray, List.set_cons_zero, List.set_cons_succ]
            refine wpAnyH_take (i := 9) (oi := _) (v := ?_) (by rw [List.getElem?_toArray]; rfl) (by kernel_rfl) (by kernel_rfl) (by kernel_rfl) (by exact fun _ _ _ h => h) (Or.inl ⟨by rfl, ?_⟩) (by assumption) ?_
            rotate_left
            · (intro w9 hSw; (try dsimp only at hSw); go_simp; first | done | with_reducible rfl)
            try simp only [Act.put, List.setIfInBounds_toArray, List.set_cons_zero, List.set_cons_succ]
            refine wpAnyH_take (i := 10) (oi := _) (v := ?_) (by rw [List.getElem?_toArray]; rfl) (by kernel_rfl) (by kernel_rfl) (by kernel_rfl) (by exact fun _ _ _ h => h) (Or.inl ⟨by rfl, ?_⟩) (by assumption) ?_
            rotate_left
            · (intro w9 hSw; (try dsimp only at hSw); go_simp; first | done | with_reducible rfl)
            try simp only [Act.put, List.setIfInBounds_toArray, List.set_cons_zero, List.set_cons_succ]
            refine wpAnyH_take (i := 11) (oi := _) (v := ?_) (by rw [List.getElem?_toArray]; rfl) (by kernel_rfl) (by kernel_rfl) (by kernel_rfl) (by exact fun _ _ _ h => h) (Or.inl ⟨by rfl, ?_⟩) (by assumption) ?_
            rotate_left
            · (intro w9 hSw; (try dsimp only at hSw); go_simp; first | done | with_reducible rfl)
            try simp only [Act.put, List.setIfInBounds_toArray, List.set_cons_zero, List.set_cons_succ]
            refine wpAnyH_take (i := 14) (oi := _) (v := ?_) (by rw [List.getElem?_toArray]; rfl) (by kernel_rfl) (by kernel_rfl) (by kernel_rfl) (by exact fun _ _ _ h => h) (Or.inl ⟨by rfl, ?_⟩) (by assumption) ?_
            rotate_left
            · (intro w9 hSw; (try dsimp only at hSw); go_simp; first | done | with_reducible rfl)
            try simp only [Act.put, List.setIfInBounds_toArray, List.set_cons_zero, List.set_cons_succ]
            refine wpAnyH_take (i := 15) (oi := _) (v := ?_) (by rw [List.getElem?_toArray]; rfl) (by kernel_rfl) (by kernel_rfl) (by kernel_rfl) (by exact fun _ _ _ h => h) (Or.inl ⟨by rfl, ?_⟩) (by assumption) ?_
            rotate_left
            · (intro w9 hSw; (try dsimp only at hSw); go_simp; first | done | with_reducible rfl)
            try simp only [Act.put, List.setIfInBounds_toArray, List.set_cons_zero, List.set_cons_succ]
            refine wpAnyH_ready (rs := [12]) (by kernel_rfl) (by simp) ?_
            refine AllReadyH.cons (o := _) (by rw [List.getElem?_toArray]; rfl) (fun K hK => ?_) AllReadyH.nil
            rw [if_pos (by rfl)]
            go_simp
            refine hpk.mono ?_
            rintro e w5 ⟨v, rfl, hown, hb5⟩
            have hcv5 := conv_own hown
            have HS5 := HAFT.out w5 hb5
            go_wp2_with fail
            refine hK.out _ _ HS5 (fun hHeld => ?_)
            clear hK K
            try simp only [Act.put, List.setIfInBounds_toArray, List.set_cons_zero, List.set_cons_succ]
            refine wpAnyH_ready (rs := [13]) (by kernel_rfl) (by simp) ?_
            refine AllReadyH.cons (o := _) (by rw [List.getElem?_toArray]; rfl) (fun K hK => ?_) AllReadyH.nil
            rw [if_pos (by rfl)]
            go_wp2_with fail
            refine hK.out _ _ HS5 (fun hHeld => ?_)
            clear hK K
            try simp only [Act.put, List.setIfInBounds_toArray, List.set_cons_zero, List.set_cons_succ]
            have HB5 := Lib.hid (HBM.out.trans (hb5.mono hsz))
            have HR5 := Lib.hid (HRTT.out.kp (Kp.none_of_below (S := fun _ => False) hb5) (fun h => h) (fun _ _ h => h))
            by_cases hp : packL M = l
            · have hbe : ((strN (packL M)).toList == (strN l).toList) = true := by rw [hp]; simp
              have hown5 : w5.ownsRow (w.heap.size + 1) 27 4 (.slice Am mm cm) mm (pvs M) := own_kp (w := wr.drew) HRT.out.2.2.2.2 (Kp.none_of_below (S := fun _ => False) hb5) (fun _ _ h => h)
              have HF := Lib.hid (RRPost.some (HA1.out M HU2.out hp) (by have := own_base hown5 (show w.heap.size ≤ w.heap.size + 1 by omega); rw [← own_len hown5]; exact this) HB5.out)
              clear hp hown5 hcv5 hown hb5
              refine wpAnyH_take (i := 16) (oi := _) (v := ?_) (by rw [List.getElem?_toArray]; rfl) (by kernel_rfl) (by kernel_rfl) (by kernel_rfl) (by exact fun _ _ _ h => h) (Or.inl ⟨by rfl, ?_⟩) (by assumption) ?_
              rotate_left
              · (intro w9 hSw; (try dsimp only at hSw); go_simp; first | done | with_reducible rfl)
              try simp only [Act.put, List.setIfInBounds_toArray, List.set_cons_zero, List.set_cons_succ]
              refine wpAnyH_take (i := 17) (oi := _) (v := ?_) (by rw [List.getElem?_toArray]; rfl) (by kernel_rfl) (by kernel_rfl) (by kernel_rfl) (by exact fun _ _ _ h => h) (Or.inl ⟨by rfl, ?_⟩) (by assumption) ?_
              rotate_left
              · (intro w9 hSw; (try dsimp only at hSw); go_simp; first | done | with_reducible rfl)
              try simp only [Act.put, List.setIfInBounds_toArray, List.set_cons_zero, List.set_cons_succ]
              refine wpAnyH_done (by kernel_rfl) ?_ _
              go_wp2_with fail
              go_ret2
              exact HF.out
            · have hbe : ((strN (packL M)).toList == (strN l).toList) = false := strN_beq (packL_byte M) HRd.out.2.1 hp
              have HF := Lib.hid (RRPost.none (HA2.out M HU2.out hp) HB5.out)
              clear hp hcv5 hown hb5
              refine wpAnyH_take (i := 16) (oi := _) (v := ?_) (by rw [List.getElem?_toArray]; rfl) (by kernel_rfl) (by kernel_rfl) (by kernel_rfl) (by exact fun _ _ _ h => h) (Or.inl ⟨by rfl, ?_⟩) (by assumption) ?_
              rotate_left
              · (intro w9 hSw; (try dsimp only at hSw); go_simp; first | done | with_reducible rfl)
              try simp only [Act.put, List.setIfInBounds_toArray, List.set_cons_zero, List.set_cons_succ]
              refine wpAnyH_take (i := 17) (oi := _) (v := ?_) (by rw [List.getElem?_toArray]; rfl) (by kernel_rfl) (by kernel_rfl) (by kernel_rfl) (by exact fun _ _ _ h => h) (Or.inl ⟨by rfl, ?_⟩) (by assumption) ?_
              rotate_left
              · (intro w9 hSw; (try dsimp only at hSw); go_simp; first | done | with_reducible rfl)
              try simp only [Act.put, List.setIfInBounds_toArray, List.set_cons_zero, List.set_cons_succ]
              refine wpAnyH_done (by kernel_rfl) ?_ _
              go_wp2_with fail
              go_ret2
              exact HF.out
          · have hno : ans l = none := HA2.out M hU fun hp => hMN (by have := ans_len hM100 hp; have := HV.out; omega)
            have HN := Lib.hid (fun q => RRPost.none hno (below_drewN hb q))
            have D7 : (mm != k) = true := by rw [hML]; simpa using hMN
            have D8 : decide ((mm : Int) = (k : Int)) = false := decide_eq_false (by omega)
            have D9 : ((mm : Int) != (k : Int)) = true := by simp; omega
            have D10 : ((mm : Int) == (k : Int)) = false := by simp; omega
            have D11 : (mm == k) = false := by simp; omega
            have D12 : decide (mm = k) = false := decide_eq_false (by omega)
            have D13 : decide (M.length = k) = false := decide_eq_false (by omega)
            have D14 : (M.length == k) = false := by simp; omega
            have HML := Lib.hid hML
            clear hML
            clear hno hU hb hgood haP hownP hup hR hMN
            go_wp2_with fail
            go_quiet (fail)
            go_wp2_with fail
            go_ret2
            exact HN.out _
  · rw [hE] at hq
    have HN := Lib.hid (ans_bad (b := l) (by rw [gL_fst, decide_eq_true hE]; rfl))
    clear hr hlt hln hd0 hE hV
    go_enter Try.func15, Try.ntmps15
    go_wp2_with fail
    refine hq.mono ?_
    rintro e w1 ⟨rfl, hw1⟩
    rw [hw1]
    clear hw1 w1
    go_wp2_with fail
    go_ret2
    exact .none HN.out (Below.refl _ _)
end Go.Proofs.Ytghklmhmhekjgaa
