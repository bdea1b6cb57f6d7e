/- What chunk.part, and the reference's cut, answer: the bytes that a number tells of. Conditions: at most 10^9 bytes, each below 256. -/
import Derived.Test.YtnbamngancchmaaRvintg
import Derived.BigQuiet
namespace Go.Proofs.Ytnbamngancchmaa
open Go.RowKit PB PC

/-- The bytes that a number at the head tells of; where they end. -/
def cutL (b : List Nat) : Option (List Nat × Nat) := (vget b).bind fun x => if x.2 + x.1 ≤ b.length then some ((b.drop x.2).take x.1, x.2 + x.1) else none
theorem cutL_some {b : List Nat} {u k : Nat} (h : vget b = some (u, k)) (hle : k + u ≤ b.length) : cutL b = some ((b.drop k).take u, k + u) := by
  unfold cutL; rw [h, Option.bind_some, if_pos hle]
theorem cutL_over {b : List Nat} {u k : Nat} (h : vget b = some (u, k)) (hle : ¬ k + u ≤ b.length) : cutL b = none := by
  unfold cutL; rw [h, Option.bind_some, if_neg hle]
theorem cutL_none {b : List Nat} (h : vget b = none) : cutL b = none := by unfold cutL; rw [h]; rfl
theorem Rd.sub {w : World} {B b off n : Nat} {l : List Nat} (h : Rd w B (some ⟨b, off, none⟩) n (l.map bv)) {k m : Nat} (hm : k + m ≤ n) : Rd w B (some ⟨b, off + k, none⟩) m (((l.drop k).take m).map bv) := by
  have hl := h.blen
  refine ⟨by simp; omega, fun hm0 => ?_⟩
  obtain ⟨b', off', e, hb, hc⟩ := h.2 (by omega)
  injection e with e
  injection e with e1 e2
  subst e1 e2
  refine ⟨b, off + k, rfl, hb, fun j u hu => ?_⟩
  have hj : j < m := by
    have := (List.getElem?_eq_some_iff.1 hu).1
    simp at this; omega
  rw [Nat.add_assoc]
  refine hc _ _ ?_
  rw [← hu, List.getElem?_map, List.getElem?_map, List.getElem?_take_of_lt hj, List.getElem?_drop]

/-- What part answers. -/
def PartPost (w : World) (B n : Nat) (l : List Nat) (r : Ending) (w' : World) : Prop :=
  (∃ nq, w' = w.drewN nq) ∧ ((cutL l = none ∧ r = .returned (.tuple #[.slice none 0 0, .slice none 0 0, .bool false])) ∨
    ∃ (x : List Nat) (e : Nat) (A1 A2 : Option Addr) (c1 c2 : Nat), cutL l = some (x, e) ∧ e ≤ n ∧ r = .returned (.tuple #[.slice A1 x.length c1, .slice A2 (n - e) c2, .bool true]) ∧ Rd w B A1 x.length (x.map bv) ∧ x.length ≤ c1 ∧ Rd w B A2 (n - e) ((l.drop e).map bv) ∧ n - e ≤ c2 ∧ c2 ≤ maxLen)

theorem Rd.zero {w : World} {B : Nat} {xs : List Value} (A : Option Addr) (h : xs.length = 0) : Rd w B A 0 xs := ⟨h, fun hn => absurd hn (by omega)⟩
theorem Rd.any0 {w : World} {B m : Nat} {xs : List Value} (A : Option Addr) (hm : m = 0) (h : xs.length = m) : Rd w B A m xs := by subst hm; exact Rd.zero A h
theorem part_mk {w : World} {B n m r e c1 c2 : Nat} {l x : List Nat} {A1 A2 : Option Addr} (hc : cutL l = some (x, e)) (he : e ≤ n) (hm : x.length = m) (hrr : n - e = r) (h1 : Rd w B A1 m (x.map bv)) (hc1 : m ≤ c1) (h2 : Rd w B A2 r ((l.drop e).map bv)) (hc2 : r ≤ c2) (hc3 : c2 ≤ maxLen) (nq : Nat) :
    PartPost w B n l (.returned (.tuple #[.slice A1 m c1, .slice A2 r c2, .bool true])) (w.drewN nq) := by
  subst hm hrr
  exact ⟨⟨nq, rfl⟩, Or.inr ⟨x, e, A1, A2, c1, c2, hc, he, rfl, h1, hc1, h2, hc2, hc3⟩⟩
theorem part_no {w : World} {B n : Nat} {l : List Nat} (hc : cutL l = none) (nq : Nat) : PartPost w B n l (.returned (.tuple #[.slice none 0 0, .slice none 0 0, .bool false])) (w.drewN nq) := ⟨⟨nq, rfl⟩, Or.inl ⟨hc, rfl⟩⟩

set_option maxRecDepth 100000 in
set_option maxHeartbeats 1000000 in
theorem part_any (A : Option Addr) (n c B : Nat) (l : List Nat) (w : World) (hr : Rd w B A n (l.map bv)) (hnc : n ≤ c) (hcm : c ≤ maxLen) (hn : n ≤ 1000000000) (hb : ∀ x ∈ l, x < 256) :
    Calls Try.prog 62 #[.slice A n c] w (PartPost w B n l) := by
  have hl := hr.blen
  have hq := vint_get A n c B l w hr hn hb
  have HL := Lib.hid hl
  have hcm' : c ≤ 9223372036854775807 := hcm
  clear hcm
  cases hv : vget l with
  | none =>
    have HP := Lib.hid (cutL_none hv)
    unfold VgPost VgV VgK VgE at hq
    rw [hv] at hq
    simp only [Option.isSome_none, Bool.false_eq_true, if_false] at hq
    clear hv
    go_enter Try.func62, Try.ntmps62
    go_wp2_with fail
    refine hq.mono ?_
    rintro e w1 ⟨rfl, rfl⟩
    go_wp2_with fail
    go_ret3
    exact ⟨⟨0, rfl⟩, Or.inl ⟨HP.out, rfl⟩⟩
  | some uk =>
    obtain ⟨u, k⟩ := uk
    have hbk := vget_back hb hv
    obtain ⟨hu64, hkk, hkl, _⟩ := hbk
    clear hkk
    have HV := Lib.hid hv
    unfold VgPost VgV VgK VgE at hq
    rw [hv] at hq
    simp only [Option.isSome_some, if_true] at hq
    rw [hl] at hkl
    have hk0 : 0 < n := by
      rcases Nat.eq_zero_or_pos n with h | h
      · subst h
        have : l = [] := List.eq_nil_of_length_eq_zero hl
        subst this
        cases hv
      · exact h
    obtain ⟨b, off, rfl, hbB, _⟩ := hr.2 hk0
    clear hv
    by_cases hle : k + u ≤ n
    · have hw : wrap64 (u : Int) = (u : Int) := by unfold wrap64; omega
      rw [hw] at hq
      have HP := Lib.hid (cutL_some HV.out (by rw [HL.out]; exact hle))
      clear hw
      go_enter Try.func62, Try.ntmps62
      go_wp2_with fail
      refine hq.mono ?_
      rintro e w1 ⟨rfl, rfl⟩
      go_wp2_with fail
      have hs1 := hr.sub (k := k) (m := u) hle
      have hs2 := hr.sub (k := k + u) (m := n - (k + u)) (by omega)
      rw [List.take_of_length_le (by rw [List.length_drop, HL.out]; exact Nat.le_refl _)] at hs2
      have hxl : ((l.drop k).take u).length = u := by rw [List.length_take, List.length_drop, HL.out]; omega
      have hdl : ((l.drop (k + u)).map bv).length = n - (k + u) := by rw [List.length_map, List.length_drop, HL.out]
      have H1 := Lib.hid hs1
      have H2 := Lib.hid hs2
      have H3 := Lib.hid (And.intro hxl hdl)
      clear hs1 hs2 hxl hdl hr
      go_quiet (fail)
      go_wp2_with fail
      all_goals
        go_ret3
        refine part_mk HP.out hle ?_ ?_ ?_ ?_ ?_ ?_ ?_ nq
        · have := H3.out.1; omega
        · omega
        · first | exact H1.out | exact Rd.any0 _ (by omega) (by rw [List.length_map]; have := H3.out.1; omega)
        · omega
        · first | exact H2.out | exact Rd.any0 _ (by omega) (by have := H3.out.2; omega) | (have hu0 : u = 0 := (by omega); have h := H2.out; rw [hu0] at h ⊢; exact h)
        · omega
        · unfold maxLen; omega
    · have hcs : wrap64 (u : Int) < 0 ∨ (0 ≤ wrap64 (u : Int) ∧ (n : Int) - k < wrap64 (u : Int)) := by unfold wrap64; omega
      have hwb : -9223372036854775808 ≤ wrap64 (u : Int) ∧ wrap64 (u : Int) ≤ 9223372036854775807 := by unfold wrap64; omega
      obtain ⟨hwb1, hwb2⟩ := hwb
      have HP := Lib.hid (cutL_over HV.out (by rw [HL.out]; exact hle))
      obtain ⟨U, hU⟩ : ∃ U, U = wrap64 (u : Int) := ⟨_, rfl⟩
      rw [← hU] at hcs hq hwb1 hwb2
      clear hU hle
      rcases hcs with hcs | ⟨hcs, hcs2⟩
      all_goals
        go_enter Try.func62, Try.ntmps62
        go_wp2_with fail
        refine hq.mono ?_
        rintro e w1 ⟨rfl, rfl⟩
        go_wp2_with fail
        go_ret3
        exact part_no HP.out 0

/-- What cut answers: the bytes from a place on that a number there tells of. -/
def CutPost (w : World) (B at_ : Nat) (l : List Nat) (r : Ending) (w' : World) : Prop :=
  w' = w ∧ ((cutL (l.drop at_) = none ∧ r = .returned (.tuple #[.slice none 0 0, .int .i64 0, .bool false])) ∨
    ∃ (x : List Nat) (e : Nat) (A1 : Option Addr) (c1 : Nat), cutL (l.drop at_) = some (x, e) ∧ r = .returned (.tuple #[.slice A1 x.length c1, .int .i64 ((at_ + e : Nat) : Int), .bool true]) ∧ Rd w B A1 x.length (x.map bv) ∧ at_ + e ≤ l.length)
theorem cut_mk {w : World} {B m at_ e c1 : Nat} {l x : List Nat} {A1 : Option Addr} {V : Int} (hc : cutL (l.drop at_) = some (x, e)) (he : at_ + e ≤ l.length) (hm : x.length = m) (hV : V = ((at_ + e : Nat) : Int)) (h1 : Rd w B A1 m (x.map bv)) :
    CutPost w B at_ l (.returned (.tuple #[.slice A1 m c1, .int .i64 V, .bool true])) w := by
  subst hm hV
  exact ⟨rfl, Or.inr ⟨x, e, A1, c1, hc, rfl, h1, he⟩⟩

set_option maxRecDepth 100000 in
set_option maxHeartbeats 1000000 in
theorem cut_any (A : Option Addr) (n c B at_ : Nat) (l : List Nat) (w : World) (hr : Rd w B A n (l.map bv)) (hnc : n ≤ c) (hcm : c ≤ maxLen) (hn : n ≤ 1000000000) (hb : ∀ x ∈ l, x < 256) (hat : at_ ≤ n) (hpos : 0 < n) :
    Calls Try.prog 65 #[.slice A n c, .int .i64 (at_ : Int)] w (CutPost w B at_ l) := by
  have hl := hr.blen
  obtain ⟨b, off, rfl, hbB, _⟩ := hr.2 hpos
  have hsub := hr.sub (k := at_) (m := n - at_) (by omega)
  rw [List.take_of_length_le (by rw [List.length_drop, hl]; exact Nat.le_refl _)] at hsub
  have hbd : ∀ x ∈ l.drop at_, x < 256 := fun x hx => hb x (List.mem_of_mem_drop hx)
  have hcm' : c ≤ 9223372036854775807 := hcm
  have HL := Lib.hid hl
  -- the address that the slice has: the place, or, where nothing is left of the room, the head
  have hq : ∀ (A' : Option Addr) (m' : Nat), Rd w B A' m' ((l.drop at_).map bv) → m' ≤ 1000000000 → ∀ c', Calls Try.prog 64 #[.slice A' m' c'] w (VgPost w (l.drop at_)) := fun A' m' h hm c' => rvint_get A' m' c' B (l.drop at_) w h hm hbd
  have HQ := Lib.hid hq
  have HS := Lib.hid hsub
  have hdl : (l.drop at_).length = n - at_ := by rw [List.length_drop, hl]
  have HDL := Lib.hid hdl
  clear hq hcm hsub hdl
  cases hv : vget (l.drop at_) with
  | none =>
    have HP := Lib.hid (cutL_none hv)
    have HV : Hid (VgV (l.drop at_) = 0 ∧ VgK (l.drop at_) = 0 ∧ VgE (l.drop at_) = 5) := by unfold VgV VgK VgE; rw [hv]; exact ⟨rfl, rfl, rfl⟩
    clear hv
    go_enter Try.func65, Try.ntmps65
    go_wp2_with fail
    all_goals
      refine (HQ.out _ (n - at_) ?_ (by omega) _).mono ?_
      · first | exact HS.out | exact Rd.any0 _ (by omega) (by rw [List.length_map, HDL.out])
      intro e w1 h1
      obtain ⟨rfl, rfl⟩ := h1
      rw [HV.out.1, HV.out.2.1, HV.out.2.2]
      go_wp2_with fail
      go_ret3
      exact ⟨rfl, Or.inl ⟨HP.out, rfl⟩⟩
  | some uk =>
    obtain ⟨u, k⟩ := uk
    obtain ⟨hu64, hkk, hkl, _⟩ := vget_back hbd hv
    clear hkk
    have HG := Lib.hid hv
    have HV : Hid (VgV (l.drop at_) = wrap64 (u : Int) ∧ VgK (l.drop at_) = (k : Int) ∧ VgE (l.drop at_) = 0) := by unfold VgV VgK VgE; rw [hv]; exact ⟨rfl, rfl, rfl⟩
    rw [HDL.out] at hkl
    have hlt : at_ < n := by
      rcases Nat.lt_or_ge at_ n with h | h
      · exact h
      · rw [List.drop_eq_nil_of_le (by omega)] at hv; cases hv
    clear hv
    by_cases hle : k + u ≤ n - at_
    · have hw : wrap64 (u : Int) = (u : Int) := by unfold wrap64; omega
      have HP := Lib.hid (cutL_some HG.out (by rw [HDL.out]; exact hle))
      have hs1 := hr.sub (k := at_ + k) (m := u) (by omega)
      rw [← List.drop_drop] at hs1
      have H1 := Lib.hid hs1
      have hxl : (((l.drop at_).drop k).take u).length = u := by rw [List.length_take, List.length_drop, HDL.out]; omega
      have H3 := Lib.hid hxl
      have HW := Lib.hid hw
      clear hw hs1 hxl
      go_enter Try.func65, Try.ntmps65
      go_wp2_with fail
      refine (HQ.out _ (n - at_) HS.out (by omega) _).mono ?_
      intro e w1 h1
      obtain ⟨rfl, rfl⟩ := h1
      rw [HV.out.1, HV.out.2.1, HV.out.2.2, HW.out]
      go_wp2_with fail
      all_goals
        go_ret3
        refine cut_mk HP.out (by rw [HL.out]; omega) ?_ ?_ ?_
        · have := H3.out; omega
        · omega
        · first | exact H1.out | exact Rd.any0 _ (by omega) (by rw [List.length_map]; have := H3.out; omega)
    · have hcs : wrap64 (u : Int) < 0 ∨ (0 ≤ wrap64 (u : Int) ∧ (n : Int) - at_ - k < wrap64 (u : Int)) := by unfold wrap64; omega
      have hwb : -9223372036854775808 ≤ wrap64 (u : Int) ∧ wrap64 (u : Int) ≤ 9223372036854775807 := by unfold wrap64; omega
      obtain ⟨hwb1, hwb2⟩ := hwb
      have HP := Lib.hid (cutL_over HG.out (by rw [HDL.out]; exact hle))
      obtain ⟨U, hU⟩ : ∃ U, U = wrap64 (u : Int) := ⟨_, rfl⟩
      rw [← hU] at hcs HV hwb1 hwb2
      clear hU hle
      rcases hcs with hcs | ⟨hcs, hcs2⟩
      all_goals
        go_enter Try.func65, Try.ntmps65
        go_wp2_with fail
        refine (HQ.out _ (n - at_) HS.out (by omega) _).mono ?_
        intro e w1 h1
        obtain ⟨rfl, rfl⟩ := h1
        rw [HV.out.1, HV.out.2.1, HV.out.2.2]
        go_wp2_with fail
        go_ret3
        exact ⟨rfl, Or.inl ⟨HP.out, rfl⟩⟩
end Go.Proofs.Ytnbamngancchmaa
