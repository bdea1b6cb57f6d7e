/- What Put makes of a table. Conditions: names of at most 10^6 bytes, at most 1000 plans. -/
import Derived.Test.YtghklmhmhekjgaaTab
import Derived.Maps.OwnSet
namespace Go.Proofs.Ytghklmhmhekjgaa
open Go.RowKit Go.Maps

/-- What Put answers. -/
def putE (p : Pl) (L : List Pl) : Int := if OkP p.n p.f p.t p.r then (if hasp p.nm L = false ∧ 100 ≤ L.length then 2 else 0) else 30
/-- What Put leaves. -/
def putL (p : Pl) (L : List Pl) : List Pl := if OkP p.n p.f p.t p.r then (if hasp p.nm L = false ∧ 100 ≤ L.length then L else putp p L) else L

/-- What Put does. -/
def PPost (w : World) (T b : Nat) (p : Pl) (L : List Pl) (e : Ending) (w' : World) : Prop :=
  e = .returned (.int .i64 (putE p L)) ∧ Tb w' T b (putL p L) ∧ Kp (fun x => x = b) w w'
theorem ppost_no {w w' : World} {T b : Nat} {p : Pl} {L : List Pl} (h : ¬ OkP p.n p.f p.t p.r) (hb : Below w.heap.size w w') (hT : Tb w T b L) : PPost w T b p L (.returned (.int .i64 30)) w' := by
  unfold PPost putE putL
  rw [if_neg h, if_neg h]
  exact ⟨rfl, hT.below hb hT.lt.1 hT.lt.2, Kp.none_of_below hb⟩
theorem ppost_long {w w' : World} {T b : Nat} {p : Pl} {L : List Pl} (h : OkP p.n p.f p.t p.r) (h1 : hasp p.nm L = false ∧ 100 ≤ L.length) (hb : Below w.heap.size w w') (hT : Tb w T b L) : PPost w T b p L (.returned (.int .i64 2)) w' := by
  unfold PPost putE putL
  rw [if_pos h, if_pos h, if_pos h1, if_pos h1]
  exact ⟨rfl, hT.below hb hT.lt.1 hT.lt.2, Kp.none_of_below hb⟩
theorem ppost_ok {w w1 w' : World} {T b n : Nat} {p : Pl} {L : List Pl} (h : OkP p.n p.f p.t p.r) (h1 : ¬ (hasp p.nm L = false ∧ 100 ≤ L.length)) (hb : Below w.heap.size w w1) (hT : Tb w T b L)
    (hm : w'.ownsMap Try.prog 9 plr b n ((dat L).put (.string p.nm) (pld p))) (ht : w1.mapTurned w' b) : PPost w T b p L (.returned (.int .i64 0)) w' := by
  unfold PPost putE putL
  rw [if_pos h, if_pos h, if_neg h1, if_neg h1]
  rw [dat_put] at hm
  have hk : Kp (fun x => x = b) w w' := (Kp.none_of_below hb).grown ht.grown (fun x _ e => by cases e; rfl)
  refine ⟨rfl, ⟨?_, own_tight hm, ris_put hT.ris p⟩, hk⟩
  exact hT.t.kp hk hT.ne

set_option maxRecDepth 100000 in
set_option maxHeartbeats 4000000 in
theorem put10 (T b : Nat) (n : ByteArray) (f t r : Int) (L : List Pl) (w : World) (hT : Tb w T b L) (hs : n.size ≤ 1000000) (hL : L.length ≤ 1000) :
    Calls Try.prog 10 #[.pointer (some ⟨T, 0, none⟩), .agg #[.string n, .int .i64 f, .int .i64 t, .int .i64 r]] w (PPost w T b ⟨n, f, t, r⟩ L) := by
  have hw := fun W => check17 n f t r W hs
  unfold CPost at hw
  have HW := Lib.hid hw
  clear hw
  have HT := Lib.hid hT
  have hlt := hT.lt
  have hmx : n.size ≤ maxLen := by unfold maxLen; omega
  go_enter Try.func10, Try.ntmps10
  go_wp2_with fail
  refine (HW.out _).mono ?_
  rintro e w1 ⟨rfl, hb1⟩
  have hA : Arr w1 w.heap.size 27 #[.string n, .int .i64 f, .int .i64 t, .int .i64 r] := (Arr.new w 27 _).below hb1 (by simp)
  have HB := Lib.hid (((Below.refl w.heap.size w).alloc (Nat.le_refl _) _).trans (hb1.mono (by simp)))
  have hsz1 : w.heap.size < w1.heap.size := hA.lt
  clear hb1
  rcases chk_cases n f t r with ⟨hok, hce⟩ | ⟨hok, hce⟩
  · rw [hce]
    clear hce
    have HOK := Lib.hid hok
    clear hok
    have hT1 := HT.out.below HB.out hlt.1 hlt.2
    have hc := hT1.cell
    have h0 : w1.cell? ⟨w.heap.size, 0, none⟩ = some (.string n) := hA.at_ rfl
    have h1 : w1.cell? ⟨w.heap.size, 1, none⟩ = some (.int .i64 f) := hA.at_ rfl
    have h2 : w1.cell? ⟨w.heap.size, 2, none⟩ = some (.int .i64 t) := hA.at_ rfl
    have h3 : w1.cell? ⟨w.heap.size, 3, none⟩ = some (.int .i64 r) := hA.at_ rfl
    obtain ⟨o, ho⟩ : ∃ o, w1.heap[b]? = some o := by obtain ⟨es, clock, hb, _⟩ := hT1.m; exact ⟨_, hb⟩
    obtain ⟨bn, hbn⟩ : ∃ bn, bn = hasp n.data.toList L := ⟨_, rfl⟩
    obtain ⟨gp, hgp⟩ : ∃ gp, gp = getp n.data.toList L := ⟨_, rfl⟩
    have hlk : ∀ w', w'.heap[b]? = some o → (Instr.lookup 54 (.map (some b)) (.string n) true).run Try.prog w' = .ok (.tuple #[.agg #[.string gp.n, .int .i64 gp.f, .int .i64 gp.t, .int .i64 gp.r], .bool bn]) w' := by
      intro w' h'
      rw [hbn, hgp]
      exact look_ok2 (own_heap hT1.m (h'.trans ho.symm)) n hmx
    have HBN := Lib.hid hbn
    clear hbn hgp
    have hSS : ∀ w', Below w1.heap.size w1 w' → (w'.heap[b]? = some o ∧ w'.cell? ⟨T, 0, none⟩ = some (.map (some b)) ∧ w'.cell? ⟨w.heap.size, 0, none⟩ = some (.string n) ∧ (Instr.lookup 54 (.map (some b)) (.string n) true).run Try.prog w' = .ok (.tuple #[.agg #[.string gp.n, .int .i64 gp.f, .int .i64 gp.t, .int .i64 gp.r], .bool bn]) w') := by
      intro w' hb'
      have e1 : w'.heap[b]? = some o := (hb'.block b hT1.lt.2).trans ho
      exact ⟨e1, (hb'.cell (p := ⟨T, 0, none⟩) hT1.lt.1).trans hc, (hb'.cell (p := ⟨w.heap.size, 0, none⟩) hsz1).trans h0, hlk _ e1⟩
    have HSS := Lib.hid hSS
    clear hSS hlk
    go_wp2_with fail
    go_region_held3 (fun w' => w'.heap[b]? = some o ∧ w'.cell? ⟨T, 0, none⟩ = some (.map (some b)) ∧ w'.cell? ⟨w.heap.size, 0, none⟩ = some (.string n) ∧ (Instr.lookup 54 (.map (some b)) (.string n) true).run Try.prog w' = .ok (.tuple #[.agg #[.string gp.n, .int .i64 gp.f, .int .i64 gp.t, .int .i64 gp.r], .bool bn]) w') (exact HSS.out _ (by repeat first | exact Below.refl _ _ | refine Below.drew ?_ | refine Below.alloc ?_ (by first | exact Nat.le_refl _ | simp) _ | refine Below.setCell ?_ (by first | exact Nat.le_refl _ | simp) _)) (fail)
    all_goals
      obtain ⟨w2, hw2⟩ : ∃ w2, w2 = (w1.alloc (.cells #[.string gp.n, .int .i64 gp.f, .int .i64 gp.t, .int .i64 gp.r] 27)).drew := ⟨_, rfl⟩
      have hb2 : Below w1.heap.size w1 w2 := by rw [hw2]; exact ((Below.refl _ _).alloc (Nat.le_refl _) _).drew
      rw [← hw2]
      clear hw2
      have hT2 := hT1.below hb2 hT1.lt.1 hT1.lt.2
      have HB2 := Lib.hid (HB.out.trans (hb2.mono (by omega)))
      have hc2 := hT2.cell
      have g0 := (hb2.cell (p := ⟨w.heap.size, 0, none⟩) hsz1).trans h0
      have g1 := (hb2.cell (p := ⟨w.heap.size, 1, none⟩) hsz1).trans h1
      have g2 := (hb2.cell (p := ⟨w.heap.size, 2, none⟩) hsz1).trans h2
      have g3 := (hb2.cell (p := ⟨w.heap.size, 3, none⟩) hsz1).trans h3
      have hlen : ∀ ty, (Builtin.len_ #[54] ty #[.map (some b)]).run Try.prog w2 = .ok (.int .i64 (L.length : Nat)) w2 := fun ty => by
        have := hT2.m.len Try.underlying54 ty
        rwa [dat_size] at this
      obtain ⟨w3, hrun, hm3, ht3⟩ := (hT2.m.drew).store (string_keyed Try.underlying9) Try.underlying54 (by unfold maxLen; omega) (key_str n hmx) (plr_plv ⟨n, f, t, r⟩)
      have HM3 := Lib.hid (And.intro hm3 ht3)
      have HT2 := Lib.hid hT2
      unfold plv at hrun
      clear hb2 hT1 hT hA hm3 ht3 hT2
      cases bn
      · by_cases h100 : 100 ≤ L.length
        · have d100 : decide (100 ≤ ((L.length : Nat) : Int)) = true := decide_eq_true (by omega)
          go_wp2_with fail
          go_ret
          exact ppost_long HOK.out ⟨HBN.out.symm, h100⟩ HB2.out HT.out
        · have d100 : decide (100 ≤ ((L.length : Nat) : Int)) = false := decide_eq_false (by omega)
          go_wp2_with fail
          go_region
          all_goals
            go_wp2_with fail
            go_ret
            exact ppost_ok HOK.out (fun h => h100 h.2) (HB2.out.drew) HT.out HM3.out.1 HM3.out.2
      · go_wp2_with fail
        go_region
        all_goals
          go_wp2_with fail
          go_ret
          exact ppost_ok HOK.out (fun h => by have e : true = false := HBN.out.trans h.1; cases e) (HB2.out.drew) HT.out HM3.out.1 HM3.out.2
  · rw [hce]
    clear hce
    have HOK := Lib.hid hok
    clear hok
    go_wp2_with fail
    go_ret
    exact ppost_no HOK.out HB.out HT.out
end Go.Proofs.Ytghklmhmhekjgaa
