/- What Drop answers, the table's and the reference's, and the reference's Expire and Active. Conditions: at most 1000 plans, a name of at most 10^6 bytes. -/
import Derived.Test.YtghklmhmhekjgaaRput
import Derived.Test.YtghklmhmhekjgaaExp
namespace Go.Proofs.Ytghklmhmhekjgaa
open Go.RowKit Go.Maps

/-- What Drop answers. -/
def dropE (n : List UInt8) (L : List Pl) : Int := if hasp n L = true then 0 else 6
theorem delp_succ (n : List UInt8) {L : List Pl} {k : Nat} {p : Pl} (h : L[k]? = some p) : delp n (L.take (k + 1)) = delp n (L.take k) ++ if p.nm = n then [] else [p] := by
  unfold delp
  rw [List.take_add_one, h, List.filter_append]
  congr 1
  by_cases hp : p.nm = n <;> simp [hp]
theorem delp_le (n : List UInt8) (L : List Pl) : (delp n L).length ≤ L.length := List.length_filter_le _ _
theorem delp_lt {n : List UInt8} {L : List Pl} (h : hasp n L = true) : (delp n L).length < L.length := by
  have hle := delp_le n L
  rcases Nat.lt_or_ge (delp n L).length L.length with h1 | h1
  · exact h1
  · exfalso
    unfold hasp at h
    rw [List.any_eq_true] at h
    obtain ⟨q, hq, he⟩ := h
    have he2 : (L.filter fun q => !(q.nm == n)).length = L.length := Nat.le_antisymm hle h1
    rw [List.length_filter_eq_length_iff] at he2
    have := he2 q hq
    rw [he] at this
    cases this
theorem expL_succ (now : Int) {L : List Pl} {k : Nat} {p : Pl} (h : L[k]? = some p) : expL now (L.take (k + 1)) = expL now (L.take k) ++ if now < p.t then [p] else [] := by
  unfold expL
  rw [List.take_add_one, h, List.filter_append]
  congr 1
  by_cases hp : now < p.t <;> simp [hp]
theorem exp_len (now : Int) (L : List Pl) : (expL now L).length + expN now L = L.length := by
  unfold expL expN
  induction L with
  | nil => rfl
  | cons a r ih =>
    by_cases h : now < a.t
    · have h2 : ¬ a.t ≤ now := by omega
      simp [h, h2]; omega
    · have h2 : a.t ≤ now := by omega
      simp [h, h2]; omega

def TDPost (w : World) (T b : Nat) (n : List UInt8) (L : List Pl) (e : Ending) (w' : World) : Prop :=
  e = .returned (.int .i64 (dropE n L)) ∧ Tb w' T b (delp n L) ∧ Kp (fun x => x = b) w w'
theorem tdp_no {w w' : World} {T b : Nat} {n : List UInt8} {L : List Pl} (h : hasp n L = false) (hT : Tb w' T b L) (hk : Kp (fun x => x = b) w w') : TDPost w T b n L (.returned (.int .i64 6)) w' := by
  unfold TDPost dropE; rw [if_neg (by rw [h]; decide), delp_id h]; exact ⟨rfl, hT, hk⟩
theorem tdp_ok {w w' : World} {T b : Nat} {n : List UInt8} {L : List Pl} (h : hasp n L = true) (hT : Tb w' T b (delp n L)) (hk : Kp (fun x => x = b) w w') : TDPost w T b n L (.returned (.int .i64 0)) w' := by
  unfold TDPost dropE; rw [if_pos h]; exact ⟨rfl, hT, hk⟩

set_option maxRecDepth 100000 in
set_option maxHeartbeats 4000000 in
theorem drop19 (T b : Nat) (n : ByteArray) (L : List Pl) (w : World) (hT : Tb w T b L) (hs : n.size ≤ 1000000) :
    Calls Try.prog 19 #[.pointer (some ⟨T, 0, none⟩), .string n] w (TDPost w T b n.data.toList L) := by
  have hlt := hT.lt
  have hmx : n.size ≤ maxLen := by unfold maxLen; omega
  have hc := hT.cell
  obtain ⟨bn, hbn⟩ : ∃ bn, bn = hasp n.data.toList L := ⟨_, rfl⟩
  obtain ⟨gp, hgp⟩ : ∃ gp, gp = getp n.data.toList L := ⟨_, rfl⟩
  have hlk : (Instr.lookup 54 (.map (some b)) (.string n) true).run Try.prog w = .ok (.tuple #[.agg #[.string gp.n, .int .i64 gp.f, .int .i64 gp.t, .int .i64 gp.r], .bool bn]) w := by
    rw [hbn, hgp]; exact look_ok2 hT.m n hmx
  have HBN := Lib.hid hbn
  have hb1 : Below w.heap.size w (w.alloc (.cells #[.string gp.n, .int .i64 gp.f, .int .i64 gp.t, .int .i64 gp.r] 27)) := (Below.refl _ _).alloc (Nat.le_refl _) _
  have hT1 := hT.below hb1 hlt.1 hlt.2
  have hc1 := hT1.cell
  obtain ⟨W3, hdel, hm3, ht3⟩ := (hT1.m).drop (string_keyed Try.underlying9) Try.underlying54 (key_str n hmx) 0
  have HM := Lib.hid (And.intro hm3 (And.intro ht3 (And.intro hT1 hb1)))
  clear hm3 ht3 hbn hgp hT1 hb1
  cases bn
  · go_enter Try.func19, Try.ntmps19
    go_wp2_with fail
    go_ret
    exact tdp_no HBN.out.symm HM.out.2.2.1 (Kp.none_of_below HM.out.2.2.2)
  · go_enter Try.func19, Try.ntmps19
    go_wp2_with fail
    go_ret
    obtain ⟨hm3, ht3, hT1, hb1⟩ := HM.out
    have hk3 : Kp (fun x => x = b) w W3 := (Kp.none_of_below hb1).grown ht3.grown (fun x _ e => by injection e with e; exact e.symm)
    rw [dat_del] at hm3
    exact tdp_ok HBN.out.symm ⟨hT1.t.grown ht3.grown (by intro e; injection e with e; exact hT1.ne e.symm), own_tight hm3, ris_del hT1.ris _⟩ hk3

def RDPost (w : World) (P base : Nat) (n : List UInt8) (L : List Pl) (e : Ending) (w' : World) : Prop :=
  e = .returned (.int .i64 (dropE n L)) ∧ Rt w' P base (delp n L) ∧ Kp (fun x => x = P) w w'
theorem Rt.below {w w' : World} {P base : Nat} {L : List Pl} (hR : Rt w P base L) (hb : Below w.heap.size w w') : Rt w' P base L := hR.kp (S := fun _ => False) (Kp.none_of_below hb) (fun h => h) (fun _ _ h => h)
theorem rdp_no {w w' : World} {P base : Nat} {n : List UInt8} {L : List Pl} (h : hasp n L = false) (hR : Rt w P base L) (hb : Below w.heap.size w w') : RDPost w P base n L (.returned (.int .i64 6)) w' := by
  unfold RDPost dropE; rw [if_neg (by rw [h]; decide), delp_id h]
  exact ⟨rfl, hR.below hb, Kp.none_of_below hb⟩
/-- A new list is laid in. -/
theorem rt_store {w w7 : World} {P base m : Nat} {L' : List Pl} {v : Value} {cs : Array Value} (hP : P < w.heap.size) (hbase : base ≤ w.heap.size) (hb : Below w.heap.size w w7) (hA : Arr w7 P 46 cs) (hc : cs.size = 1) (ho : w7.ownsRow w.heap.size 27 4 v m (pvs L')) :
    Rt (w7.setCell ⟨P, 0, none⟩ v) P base L' ∧ Kp (fun x => x = P) w (w7.setCell ⟨P, 0, none⟩ v) := by
  obtain ⟨A9, c9, rfl⟩ := own_slice ho
  refine ⟨⟨A9, m, c9, ?_, ?_⟩, (Kp.none_of_below (S := fun x => x = P) hb).setCell (p := ⟨P, 0, none⟩) (.inl rfl) _⟩
  · have := hA.set 0 (.slice A9 m c9)
    obtain ⟨cl⟩ := cs
    match cl, hc with
    | [_], _ => exact this
  · refine own_far (own_base ho hbase) ?_ _
    intro e
    have := (ho.lt P e).1
    omega
theorem rdp_ok {w w7 : World} {P base m : Nat} {n : List UInt8} {L : List Pl} {v : Value} {cs : Array Value} (h : hasp n L = true) (hP : P < w.heap.size) (hbase : base ≤ w.heap.size) (hb : Below w.heap.size w w7) (hA : Arr w7 P 46 cs) (hc : cs.size = 1) (ho : w7.ownsRow w.heap.size 27 4 v m (pvs (delp n L))) :
    RDPost w P base n L (.returned (.int .i64 0)) (w7.setCell ⟨P, 0, none⟩ v) := by
  unfold RDPost dropE; rw [if_pos h]
  exact ⟨rfl, rt_store hP hbase hb hA hc ho⟩

set_option maxRecDepth 100000 in
set_option maxHeartbeats 4000000 in
theorem rdrop20 (P base : Nat) (n : ByteArray) (L : List Pl) (w : World) (hR : Rt w P base L) (hbase : base ≤ w.heap.size) (hL : L.length ≤ 1000) :
    Calls Try.prog 20 #[.pointer (some ⟨P, 0, none⟩), .string n] w (RDPost w P base n.data.toList L) := by
  obtain ⟨i0, hi, hz0, hz1, hz2⟩ := info_parts info27
  have HR := Lib.hid hR
  obtain ⟨A, m, c, haP, hown⟩ := hR
  have hP := haP.lt
  obtain ⟨A', c', hAc, hpv, hmc, hcm⟩ := Pv.of_own hown
  injection hAc with e1 e2 e3
  subst e1; subst e3
  have hlm := hpv.1
  have hm : m ≤ 1000 := by omega
  have HLM := Lib.hid hlm
  clear e2 hlm hcm hown
  go_enter Try.func20, Try.ntmps20
  go_wp2_with fail
  go_loopw [5, 6] (fun v i wr => ∃ (k j : Nat), k ≤ m ∧ i = .int .i64 k ∧ wr.ownsRow w.heap.size 27 4 v j (pvs (delp n.data.toList (L.take k))) ∧ Below w.heap.size w wr) (fun _ i _ => m - (intOf i).toNat)
  case atStart => exact ⟨0, 0, Nat.zero_le _, rfl, World.ownsRow_nil _ _ _ _, Below.refl _ _⟩
  case round =>
    obtain ⟨k, j, hk, rfl, hown, hb⟩ := hrel
    have hAr := haP.below hb hP
    have cP := hAr.at_ (i := 0) (v := .slice A m c) rfl
    have fP := hAr.frozen 0
    have hjl : j = (delp n.data.toList (L.take k)).length := by have := hown.1; rw [pvs_len] at this; omega
    have hjk : j ≤ k := by have := delp_le n.data.toList (L.take k); rw [List.length_take] at this; omega
    have HJ := Lib.hid hjl
    have hsz := hb.size
    clear hjl
    by_cases hlt : k < m
    · obtain ⟨b1, off, rfl, hb1, hcs⟩ := (hpv.below (hb.mono (Nat.le_refl _))).at4 hlt
      obtain ⟨p, hp⟩ : ∃ p, L[k]? = some p := ⟨_, List.getElem?_eq_getElem (by have := HLM.out; omega)⟩
      obtain ⟨g0, g1, g2, g3⟩ := hcs k p hp
      have HSU := Lib.hid (delp_succ n.data.toList hp)
      obtain ⟨pn, pf, pt, pr⟩ := p
      simp only at g0 g1 g2 g3
      have HO := Lib.hid hown
      have HB := Lib.hid hb
      have HPV := Lib.hid hpv
      clear hcs hp hown hb hpv
      have z0 : (0 : Int) ≤ (k : Int) := by omega
      have z1 : (k : Int) < (m : Int) := by omega
      cases hq : (pn.toList == n.toList)
      · have hq2 : (pn.toList != n.toList) = true := by simp [bne, hq]
        have hne : (⟨pn, pf, pt, pr⟩ : Pl).nm ≠ n.data.toList := by
          intro e
          have : pn.toList = n.toList := by rw [ByteArray.toList_eq, ByteArray.toList_eq]; exact e
          rw [this] at hq; simp at hq
        have HNE := Lib.hid hne
        clear hne
        go_wp2_with (at_builtin; refine wpList_append_pv rfl (.tmp 26) (.tmp 34) 22 rfl w.heap.size 27 i0 _ 40 Try.underlying22 hi hz0 hz1 hz2 rfl _ j _ rfl (HO.out.alloc _) (some ⟨wr.heap.size, 0, none⟩) 1 1 (wr.heap.size + 1) [⟨pn, pf, pt, pr⟩] rfl (cell_new4 wr ⟨pn, pf, pt, pr⟩) (by unfold maxLen; omega) (by omega) (by simp; omega) ?_; intro v2 w2 hown2 hg2 hat2; have HO2 := Lib.hid hown2; have HG2 := Lib.hid hg2; clear hown2 hg2 hat2)
        go_roundw
        case rel =>
          refine ⟨k + 1, j + 1, by omega, by go_num, ?_, (HB.out.alloc hsz _).grown HG2.out (by simp; omega) (fun x hx => (HO.out.lt x hx).1)⟩
          have := HO2.out
          rw [← pvs_append] at this
          rw [HSU.out, if_neg HNE.out]
          exact this
        case measure => simp [intOf]; omega
      · have hq2 : (pn.toList != n.toList) = false := by simp [bne, hq]
        have hne : (⟨pn, pf, pt, pr⟩ : Pl).nm = n.data.toList := by
          rw [beq_iff_eq, ByteArray.toList_eq, ByteArray.toList_eq] at hq
          exact hq
        have HNE := Lib.hid hne
        clear hne
        go_wp2_with fail
        go_roundw
        case rel =>
          refine ⟨k + 1, j, by omega, by go_num, ?_, HB.out⟩
          rw [HSU.out, if_pos HNE.out, List.append_nil]
          exact HO.out
        case measure => simp [intOf]; omega
    · obtain rfl : k = m := by omega
      have htk : L.take k = L := List.take_of_length_le (by have := HLM.out; omega)
      rw [htk] at hown HJ
      have HB := Lib.hid hb
      have HA := Lib.hid hAr
      obtain ⟨A2, m2, c2, rfl, hown2⟩ := own_slice3 hown
      have hm2 : m2 = j := by have h1 := hown2.1; have h2 := HJ.out; rw [pvs_len] at h1; omega
      subst hm2
      have HO := Lib.hid hown2
      clear hown hown2 hb hAr hpv haP htk
      cases hh : hasp n.data.toList L
      · have hlen : m2 = k := by rw [HJ.out, delp_id hh]; exact HLM.out
        have d0 : ((m2 : Int) == (k : Int)) = true := by rw [hlen]; simp
        have HE := Lib.hid hh
        clear hlen hh
        go_wp2_with fail
        go_ret
        exact rdp_no HE.out HR.out HB.out
      · have hlen : m2 ≠ k := by have h1 := delp_lt hh; have h2 := HJ.out; have h3 := HLM.out; omega
        have d0 : ((m2 : Int) == (k : Int)) = false := by rw [beq_eq_false_iff_ne]; omega
        have HE := Lib.hid hh
        clear hlen hh
        go_wp2_with fail
        go_ret
        exact rdp_ok HE.out hP hbase HB.out HA.out rfl HO.out

def REPost (w : World) (P base : Nat) (now : Int) (L : List Pl) (e : Ending) (w' : World) : Prop :=
  e = .returned (.int .i64 (expN now L : Nat)) ∧ Rt w' P base (expL now L) ∧ Kp (fun x => x = P) w w'
theorem rep_ok {w w7 : World} {P base m : Nat} {x now : Int} {L : List Pl} {v : Value} {cs : Array Value} (hx : x = (expN now L : Nat)) (hP : P < w.heap.size) (hbase : base ≤ w.heap.size) (hb : Below w.heap.size w w7) (hA : Arr w7 P 46 cs) (hc : cs.size = 1) (ho : w7.ownsRow w.heap.size 27 4 v m (pvs (expL now L))) :
    REPost w P base now L (.returned (.int .i64 x)) (w7.setCell ⟨P, 0, none⟩ v) := by
  unfold REPost; rw [hx]
  exact ⟨rfl, rt_store hP hbase hb hA hc ho⟩

set_option maxRecDepth 100000 in
set_option maxHeartbeats 4000000 in
theorem rexpire22 (P base : Nat) (now : Int) (L : List Pl) (w : World) (hR : Rt w P base L) (hbase : base ≤ w.heap.size) (hL : L.length ≤ 1000) :
    Calls Try.prog 22 #[.pointer (some ⟨P, 0, none⟩), .int .i64 now] w (REPost w P base now L) := by
  obtain ⟨i0, hi, hz0, hz1, hz2⟩ := info_parts info27
  obtain ⟨A, m, c, haP, hown⟩ := hR
  have hP := haP.lt
  obtain ⟨A', c', hAc, hpv, hmc, hcm⟩ := Pv.of_own hown
  injection hAc with e1 e2 e3
  subst e1; subst e3
  have hlm := hpv.1
  have hm : m ≤ 1000 := by omega
  have HLM := Lib.hid hlm
  clear e2 hlm hcm hown
  go_enter Try.func22, Try.ntmps22
  go_wp2_with fail
  go_loopw [5, 6] (fun v i wr => ∃ (k j : Nat), k ≤ m ∧ i = .int .i64 k ∧ wr.ownsRow w.heap.size 27 4 v j (pvs (expL now (L.take k))) ∧ Below w.heap.size w wr) (fun _ i _ => m - (intOf i).toNat)
  case atStart => exact ⟨0, 0, Nat.zero_le _, rfl, World.ownsRow_nil _ _ _ _, Below.refl _ _⟩
  case round =>
    obtain ⟨k, j, hk, rfl, hown, hb⟩ := hrel
    have hAr := haP.below hb hP
    have cP := hAr.at_ (i := 0) (v := .slice A m c) rfl
    have fP := hAr.frozen 0
    have hjl : j = (expL now (L.take k)).length := by have := hown.1; rw [pvs_len] at this; omega
    have hjk : j ≤ k := by have := exp_len now (L.take k); rw [List.length_take] at this; omega
    have HJ := Lib.hid hjl
    have hsz := hb.size
    clear hjl
    by_cases hlt : k < m
    · obtain ⟨b1, off, rfl, hb1, hcs⟩ := (hpv.below (hb.mono (Nat.le_refl _))).at4 hlt
      obtain ⟨p, hp⟩ : ∃ p, L[k]? = some p := ⟨_, List.getElem?_eq_getElem (by have := HLM.out; omega)⟩
      obtain ⟨g0, g1, g2, g3⟩ := hcs k p hp
      have HSU := Lib.hid (expL_succ now hp)
      obtain ⟨pn, pf, pt, pr⟩ := p
      simp only at g0 g1 g2 g3
      have HO := Lib.hid hown
      have HB := Lib.hid hb
      have HPV := Lib.hid hpv
      clear hcs hp hown hb hpv
      have z0 : (0 : Int) ≤ (k : Int) := by omega
      have z1 : (k : Int) < (m : Int) := by omega
      by_cases hq : now < pt
      · have hq2 : decide (now < pt) = true := decide_eq_true hq
        have HNE := Lib.hid hq
        clear hq
        go_wp2_with (at_builtin; refine wpList_append_pv rfl (.tmp 27) (.tmp 35) 22 rfl w.heap.size 27 i0 _ 40 Try.underlying22 hi hz0 hz1 hz2 rfl _ j _ rfl (HO.out.alloc _) (some ⟨wr.heap.size, 0, none⟩) 1 1 (wr.heap.size + 1) [⟨pn, pf, pt, pr⟩] rfl (cell_new4 wr ⟨pn, pf, pt, pr⟩) (by unfold maxLen; omega) (by omega) (by simp; omega) ?_; intro v2 w2 hown2 hg2 hat2; have HO2 := Lib.hid hown2; have HG2 := Lib.hid hg2; clear hown2 hg2 hat2)
        go_roundw
        case rel =>
          refine ⟨k + 1, j + 1, by omega, by go_num, ?_, (HB.out.alloc hsz _).grown HG2.out (by simp; omega) (fun x hx => (HO.out.lt x hx).1)⟩
          have := HO2.out
          rw [← pvs_append] at this
          rw [HSU.out, if_pos HNE.out]
          exact this
        case measure => simp [intOf]; omega
      · have hq2 : decide (now < pt) = false := decide_eq_false hq
        have HNE := Lib.hid hq
        clear hq
        go_wp2_with fail
        go_roundw
        case rel =>
          refine ⟨k + 1, j, by omega, by go_num, ?_, HB.out⟩
          rw [HSU.out, if_neg HNE.out, List.append_nil]
          exact HO.out
        case measure => simp [intOf]; omega
    · obtain rfl : k = m := by omega
      have htk : L.take k = L := List.take_of_length_le (by have := HLM.out; omega)
      rw [htk] at hown HJ
      have HB := Lib.hid hb
      have HA := Lib.hid hAr
      obtain ⟨A2, m2, c2, rfl, hown2⟩ := own_slice3 hown
      have hm2 : m2 = j := by have h1 := hown2.1; have h2 := HJ.out; rw [pvs_len] at h1; omega
      subst hm2
      have HO := Lib.hid hown2
      have hle : m2 ≤ k := hjk
      have hxe : Hid ((k : Int) - (m2 : Int) = ((expN now L : Nat) : Int)) := by
        refine Lib.hid ?_
        have h1 := exp_len now L; have h2 := HJ.out; have h3 := HLM.out; omega
      clear hown hown2 hb hAr hpv haP htk
      go_wp2_with fail
      go_ret
      exact rep_ok hxe.out hP hbase HB.out HA.out rfl HO.out

set_option maxRecDepth 100000 in
set_option maxHeartbeats 4000000 in
theorem ractive23 (P base : Nat) (now : Int) (L : List Pl) (w : World) (hR : Rt w P base L) (hL : L.length ≤ 1000) :
    Calls Try.prog 23 #[.pointer (some ⟨P, 0, none⟩), .int .i64 now] w fun e w' => e = .returned (.int .i64 (actv now L)) ∧ Below w.heap.size w w' := by
  obtain ⟨A, m, c, haP, hown⟩ := hR
  have hP := haP.lt
  obtain ⟨A', c', hAc, hpv, hmc, hcm⟩ := Pv.of_own hown
  injection hAc with e1 e2 e3
  subst e1; subst e3
  have hlm := hpv.1
  have hm : m ≤ 1000 := by omega
  have HLM := Lib.hid hlm
  clear e2 hlm hcm hown
  go_enter Try.func23, Try.ntmps23
  go_wp2_with fail
  go_loopw [5, 6] (fun v i wr => ∃ (k : Nat) (x : Int), k ≤ m ∧ i = .int .i64 k ∧ v = .int .i64 x ∧ Hid (x = actv now (L.take k)) ∧ Below w.heap.size w wr) (fun _ i _ => m - (intOf i).toNat)
  case atStart => exact ⟨0, 0, Nat.zero_le _, rfl, rfl, Lib.hid rfl, Below.refl _ _⟩
  case round =>
    obtain ⟨k, x, hk, rfl, rfl, HX, hb⟩ := hrel
    have hAr := haP.below hb hP
    have cP := hAr.at_ (i := 0) (v := .slice A m c) rfl
    have hsz := hb.size
    clear hAr
    by_cases hlt : k < m
    · obtain ⟨b1, off, rfl, hb1, hcs⟩ := (hpv.below (hb.mono (Nat.le_refl _))).at4 hlt
      obtain ⟨p, hp⟩ : ∃ p, L[k]? = some p := ⟨_, List.getElem?_eq_getElem (by have := HLM.out; omega)⟩
      obtain ⟨g0, g1, g2, g3⟩ := hcs k p hp
      have HSU := Lib.hid (act_succ now hp)
      obtain ⟨pn, pf, pt, pr⟩ := p
      simp only at g0 g1 g2 g3
      have HB := Lib.hid hb
      have HPV := Lib.hid hpv
      clear hcs hp hb hpv
      have z0 : (0 : Int) ≤ (k : Int) := by omega
      have z1 : (k : Int) < (m : Int) := by omega
      by_cases d1 : pf ≤ now
      · by_cases d2 : now < pt
        · by_cases d3 : x < pr
          · have D1 : decide (pf ≤ now) = true := decide_eq_true d1
            have D2 : decide (now < pt) = true := decide_eq_true d2
            have D3 : decide (x < pr) = true := decide_eq_true d3
            have HE : Hid (pr = actv now (L.take (k + 1))) := by
              refine Lib.hid ?_
              rw [HSU.out, ← HX.out]; unfold actS; rw [if_pos ⟨d1, d2⟩]; show pr = max x pr; omega
            go_wp2_with fail
            go_roundw
            case rel => exact ⟨k + 1, _, by omega, by go_num, rfl, HE, HB.out.alloc hsz _⟩
            case measure => simp [intOf]; omega
          · have D1 : decide (pf ≤ now) = true := decide_eq_true d1
            have D2 : decide (now < pt) = true := decide_eq_true d2
            have D3 : decide (x < pr) = false := decide_eq_false d3
            have HE : Hid (x = actv now (L.take (k + 1))) := by
              refine Lib.hid ?_
              rw [HSU.out, ← HX.out]; unfold actS; rw [if_pos ⟨d1, d2⟩]; show x = max x pr; omega
            go_wp2_with fail
            go_roundw
            case rel => exact ⟨k + 1, _, by omega, by go_num, rfl, HE, HB.out.alloc hsz _⟩
            case measure => simp [intOf]; omega
        · have D1 : decide (pf ≤ now) = true := decide_eq_true d1
          have D2 : decide (now < pt) = false := decide_eq_false d2
          have HE : Hid (x = actv now (L.take (k + 1))) := by
            refine Lib.hid ?_
            rw [HSU.out, ← HX.out]; unfold actS; rw [if_neg (fun h => d2 h.2)]
          go_wp2_with fail
          go_roundw
          case rel => exact ⟨k + 1, _, by omega, by go_num, rfl, HE, HB.out.alloc hsz _⟩
          case measure => simp [intOf]; omega
      · have D1 : decide (pf ≤ now) = false := decide_eq_false d1
        have HE : Hid (x = actv now (L.take (k + 1))) := by
          refine Lib.hid ?_
          rw [HSU.out, ← HX.out]; unfold actS; rw [if_neg (fun h => d1 h.1)]
        go_wp2_with fail
        go_roundw
        case rel => exact ⟨k + 1, _, by omega, by go_num, rfl, HE, HB.out.alloc hsz _⟩
        case measure => simp [intOf]; omega
    · obtain rfl : k = m := by omega
      have htk : L.take k = L := List.take_of_length_le (by have := HLM.out; omega)
      rw [htk] at HX
      go_wp2_with fail
      go_ret
      exact ⟨by rw [HX.out]; rfl, hb⟩
end Go.Proofs.Ytghklmhmhekjgaa
