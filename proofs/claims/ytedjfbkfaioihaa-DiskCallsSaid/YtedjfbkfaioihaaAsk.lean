/- What the steps of the disk ask, and the acts on a directory. Conditions: names of at most 10^15 bytes. -/
import Derived.Test.YtedjfbkfaioihaaSall
namespace Go.Proofs.Ytedjfbkfaioihaa
open Go.RowKit Go.Shelf Go.Maps

theorem yes_empty {s : ByteArray} (h : s.size = 0) : s.toList.isEmpty = true := by
  rw [ByteArray.toList_eq]
  have : s.data.toList = [] := List.eq_nil_of_length_eq_zero (by rw [Array.length_toList]; exact h)
  rw [this]; rfl
theorem not_empty {s : ByteArray} (h : s.size ≠ 0) : s.toList.isEmpty = false := by
  rw [ByteArray.toList_eq]
  cases he : s.data.toList with
  | nil => exact absurd (by have := congrArg List.length he; simpa using this) h
  | cons a r => rfl
set_option maxRecDepth 100000 in
set_option maxHeartbeats 1000000 in
theorem named40 (s : ByteArray) (w : World) (hs : s.size ≤ 1000000000000000) : Calls Try.prog 40 #[.string s] w fun e w' => e = .returned (.bool (!badn s)) ∧ w' = w := by
  by_cases h0 : s.size = 0
  · have e1 : (!badn s) = false := by unfold badn; rw [decide_eq_true h0]; rfl
    have e2 := yes_empty h0
    rw [e1]
    clear e1 h0
    go_enter Try.func40, Try.ntmps40
    go_wp2_with fail
    go_ret
    exact ⟨rfl, rfl⟩
  · have e2 := not_empty h0
    by_cases h6 : 60 < s.size
    · have e1 : (!badn s) = false := by unfold badn; rw [decide_eq_true h6, Bool.or_true]; rfl
      have d : decide (((s.size : Nat) : Int) ≤ 60) = false := decide_eq_false (by omega)
      rw [e1]
      clear e1 h0 h6
      go_enter Try.func40, Try.ntmps40
      go_wp2_with fail
      go_ret
      exact ⟨rfl, rfl⟩
    · have e1 : (!badn s) = true := by unfold badn; rw [decide_eq_false h6, decide_eq_false h0]; rfl
      have d : decide (((s.size : Nat) : Int) ≤ 60) = true := decide_eq_true (by omega)
      rw [e1]
      clear e1 h0 h6
      go_enter Try.func40, Try.ntmps40
      go_wp2_with fail
      go_ret
      exact ⟨rfl, rfl⟩

set_option maxRecDepth 100000 in
set_option maxHeartbeats 1000000 in
theorem there45 (D bn : Nat) (F : Nat → Nat) (L : List En) (φ : Nat → Prop) (cs : Array Value) (s : ByteArray) (w : World) (hd : Arr w D 64 cs) (hc : cs[1]? = some (.map (some bn))) (hm : Mp w φ bn F L) (hs : s.size ≤ 1000000000000000) :
    Calls Try.prog 45 #[.pointer (some ⟨D, 0, none⟩), .string s] w fun e w' => w' = w ∧ (hasp s.data.toList L = true → e = .returned (.tuple #[])) ∧ (hasp s.data.toList L = false → e = .panicked [{ v := stopv 6, recovered := false }]) := by
  have hlk := look_ok2 hm.m s (by unfold maxLen; omega)
  have c1 := hd.at_ hc
  obtain ⟨v, hv⟩ : ∃ v, v = lkv F s.data.toList L := ⟨_, rfl⟩
  rw [← hv] at hlk
  clear hv
  cases hh : hasp s.data.toList L
  · rw [hh] at hlk
    clear hh
    go_enter Try.func45, Try.ntmps45
    go_wp2_with fail
    refine (need_no 6 _).mono ?_
    rintro e w1 ⟨rfl, rfl⟩
    go_wp2_with fail
    exact ⟨rfl, rfl, fun h => by (cases h), fun _ => rfl⟩
  · rw [hh] at hlk
    clear hh
    go_enter Try.func45, Try.ntmps45
    go_wp2_with fail
    refine (need_yes 6 _).mono ?_
    rintro e w1 ⟨rfl, rfl⟩
    go_wp2_with fail
    go_end0
    exact ⟨rfl, fun _ => rfl, fun h => by (cases h)⟩

/-! ### the acts -/
theorem mp_turn {w w' : World} {φ : Nat → Prop} {b k : Nat} {F : Nat → Nat} {L : List En} (h : Mp w φ b F L) (hm : w'.ownsMap Try.prog 9 plr b k (dat F L)) : Mp w' φ b F L := ⟨h.p, own_tight hm⟩
/-- What an act on the map in block b does. -/
def ActPost (w : World) (φ : Nat → Prop) (b : Nat) (F : Nat → Nat) (L : List En) (e : Ending) (w' : World) : Prop := e = .returned (.tuple #[]) ∧ Mp w' φ b F L ∧ Kp (fun x => x = b) w w' ∧ w'.heap.size = w.heap.size
theorem turned_size {w w' : World} {b : Nat} (h : w.mapTurned w' b) : w'.heap.size = w.heap.size := by
  obtain ⟨es, clock, es', clock', hb, he⟩ := h
  rw [he]
  exact Array.size_setIfInBounds
theorem Kp.turned {w w' : World} {b : Nat} (h : w.mapTurned w' b) : Kp (fun x => x = b) w w' := (Kp.refl _ w).grown h.grown fun x _ e => by injection e with e; exact e.symm

set_option maxRecDepth 100000 in
set_option maxHeartbeats 1000000 in
theorem given82 (b p q : Nat) (φ : Nat → Prop) (F : Nat → Nat) (L : List En) (n : ByteArray) (f : Nat) (w : World) (hm : Mp w φ b F L) (hp : Arr w p 68 #[plv (F f)]) (hq : Arr w q 9 #[.string n]) (hs : n.size ≤ 1000000) (hL : L.length ≤ 1000000) :
    Calls Try.prog 82 #[.map (some b), .pointer (some ⟨p, 0, none⟩), .pointer (some ⟨q, 0, none⟩)] w (ActPost w φ b F (putp ⟨n, f⟩ L)) := by
  have cp : w.cell? ⟨p, 0, none⟩ = some (.pointer (some ⟨F f, 0, none⟩)) := hp.at_ rfl
  have cq := hq.at_ (i := 0) rfl
  obtain ⟨w3, hrun, hm3, ht3⟩ := hm.m.store (string_keyed Try.underlying9) Try.underlying61 (by unfold maxLen; omega) (key_str n (by unfold maxLen; omega)) (plr_plv (F f))
  have hput := dat_put F ⟨n, f⟩ L
  have e : ((⟨n, f⟩ : En).nm) = n.data.toList := rfl
  rw [e] at hput
  rw [hput] at hm3
  have HX := Lib.hid (show ActPost w φ b F (putp ⟨n, f⟩ L) (.returned (.tuple #[])) w3 from ⟨rfl, ⟨hm.p, own_tight hm3⟩, Kp.turned ht3, turned_size ht3⟩)
  unfold plv at hrun
  clear hm3 ht3 hput e hm hp hq
  go_enter Try.func82, Try.ntmps82
  go_wp2_with fail
  go_end0
  exact HX.out

set_option maxRecDepth 100000 in
set_option maxHeartbeats 1000000 in
theorem taken83 (b p : Nat) (φ : Nat → Prop) (F : Nat → Nat) (L : List En) (n : ByteArray) (w : World) (hm : Mp w φ b F L) (hp : Arr w p 9 #[.string n]) (hs : n.size ≤ 1000000) :
    Calls Try.prog 83 #[.map (some b), .pointer (some ⟨p, 0, none⟩)] w (ActPost w φ b F (delp n.data.toList L)) := by
  have cp := hp.at_ (i := 0) rfl
  obtain ⟨w3, hrun, hm3, ht3⟩ := hm.m.drop (string_keyed Try.underlying9) Try.underlying61 (key_str n (by unfold maxLen; omega)) 0
  rw [dat_del] at hm3
  have HX := Lib.hid (show ActPost w φ b F (delp n.data.toList L) (.returned (.tuple #[])) w3 from ⟨rfl, ⟨hm.p, own_tight hm3⟩, Kp.turned ht3, turned_size ht3⟩)
  clear hm3 ht3 hm hp
  go_enter Try.func83, Try.ntmps83
  go_wp2_with fail
  go_end0
  exact HX.out

theorem lkv_some {F : Nat → Nat} {n : List UInt8} {L : List En} {j : Nat} (h : fnd n L = some j) : lkv F n L = .pointer (some ⟨F j, 0, none⟩) := by unfold lkv; rw [h]; rfl
theorem lkv_none {F : Nat → Nat} {n : List UInt8} {L : List En} (h : fnd n L = none) : lkv F n L = .pointer none := by unfold lkv; rw [h]
theorem delp_le (n : List UInt8) (L : List En) : (delp n L).length ≤ L.length := List.length_filter_le _ _

set_option maxRecDepth 100000 in
set_option maxHeartbeats 1000000 in
theorem moved88 (b p q : Nat) (φ : Nat → Prop) (F : Nat → Nat) (L : List En) (a : Ac) (hk : a.k = 1) (w : World) (hm : Mp w φ b F L) (hp : Arr w p 9 #[.string a.n]) (hq : Arr w q 9 #[.string a.m]) (hs : a.n.size ≤ 1000000) (hs2 : a.m.size ≤ 1000000) (hL : L.length ≤ 1000000) :
    Calls Try.prog 88 #[.map (some b), .pointer (some ⟨p, 0, none⟩), .pointer (some ⟨q, 0, none⟩)] w (ActPost w φ b F (actD a L)) := by
  have cp : w.cell? ⟨p, 0, none⟩ = some (.string a.n) := hp.at_ rfl
  have hlk := look_ok2 hm.m a.n (by unfold maxLen; omega)
  cases hf : fnd a.n.data.toList L with
  | none =>
    have hh := fnd_none.1 hf
    have e : actD a L = L := by unfold actD; rw [hk]; simp only [hf]
    rw [e]
    rw [hh, lkv_none hf] at hlk
    have HX := Lib.hid (show ActPost w φ b F L (.returned (.tuple #[])) w from ⟨rfl, hm, Kp.refl _ _, rfl⟩)
    clear e hf hh hm hp hq
    go_enter Try.func88, Try.ntmps88
    go_wp2_with fail
    first | go_end0 | refine bodyPost_ret (results_none rfl _ _ _) rfl ?_
    exact HX.out
  | some j =>
    have hh := (fnd_some hf).1
    have e : actD a L = putp ⟨a.m, j⟩ (delp a.n.data.toList L) := by unfold actD; rw [hk]; simp only [hf]
    rw [e]
    rw [hh, lkv_some hf] at hlk
    obtain ⟨w3, hrun, hm3, ht3⟩ := hm.m.drop (string_keyed Try.underlying9) Try.underlying61 (key_str a.n (by unfold maxLen; omega)) 0
    rw [dat_del] at hm3
    have hm3' := own_tight hm3
    have hbp : p ≠ b := by rintro rfl; obtain ⟨es, clock, hb, _⟩ := hm.m; unfold Arr at hp; rw [hp] at hb; cases hb
    have hbq : q ≠ b := by rintro rfl; obtain ⟨es, clock, hb, _⟩ := hm.m; unfold Arr at hq; rw [hq] at hb; cases hb
    have hq3 := hq.grown ht3.grown (by intro e; injection e with e; exact hbq e.symm)
    have cq3 : w3.cell? ⟨q, 0, none⟩ = some (.string a.m) := hq3.at_ rfl
    obtain ⟨w4, hrun4, hm4, ht4⟩ := hm3'.store (string_keyed Try.underlying9) Try.underlying61 (by have := delp_le a.n.data.toList L; unfold maxLen; omega) (key_str a.m (by unfold maxLen; omega)) (plr_plv (F j))
    have hput := dat_put F ⟨a.m, j⟩ (delp a.n.data.toList L)
    have e2 : ((⟨a.m, j⟩ : En).nm) = a.m.data.toList := rfl
    rw [e2] at hput
    rw [hput] at hm4
    have HX := Lib.hid (show ActPost w φ b F (putp ⟨a.m, j⟩ (delp a.n.data.toList L)) (.returned (.tuple #[])) w4 from ⟨rfl, ⟨hm.p, own_tight hm4⟩, (Kp.turned ht3).trans (Kp.turned ht4) (fun _ _ h => h), (turned_size ht4).trans (turned_size ht3)⟩)
    unfold plv at hrun4
    clear hm3 ht3 hm hp hq e hf hh hm3' hq3 hm4 ht4 hput e2 hbp hbq
    go_enter Try.func88, Try.ntmps88
    go_wp2_with fail
    go_end0
    exact HX.out
end Go.Proofs.Ytedjfbkfaioihaa
