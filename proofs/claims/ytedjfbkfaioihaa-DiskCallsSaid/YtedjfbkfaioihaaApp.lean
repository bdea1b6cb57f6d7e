/- Append of a disk: what it answers and leaves. Conditions: 10^9 bytes in all, 10^9 steps; a name of at most 10^15 bytes. -/
import Derived.Test.YtedjfbkfaioihaaUsed
import Derived.IntWalk
import Derived.Deep.RegionLaw
namespace Go.Proofs.Ytedjfbkfaioihaa
open Go.RowKit Go.Shelf Go.Maps

theorem ownE1 (st : Ds) (n m : ByteArray) (b : List Nat) : ownE st 1 n m b = match fnd n.data.toList st.dir with
    | none => 6
    | some j => if 16777216 < (fl st.fs j).b.length + b.length then 2 else if st.quota < (usedL st.fs st.dir : Int) + b.length then 11 else 0 := rfl
theorem need_any (t : Bool) (e : Int) (w : World) : Calls Try.prog 39 #[.bool t, .int .i64 e] w fun r w' => w' = w ∧ (t = true → r = .returned (.tuple #[])) ∧ (t = false → r = .panicked [{ v := stopv e, recovered := false }]) := by
  cases t
  · exact (need_no e w).mono fun r w' h => ⟨h.2, fun h2 => by (cases h2), fun _ => h.1⟩
  · exact (need_yes e w).mono fun r w' h => ⟨h.2, fun _ => h.1, fun h2 => by (cases h2)⟩

set_option maxRecDepth 100000 in
set_option maxHeartbeats 4000000 in
theorem append49 (D pn pd pb : Nat) (n m : ByteArray) (A : Option Addr) (c : Nat) (b : List Nat) (st : Ds) (φ : Nat → Prop) (w : World) (h : DK w φ D st) (hn : Arr w pn 9 #[.string n]) (hd : Arr w pd 23 #[.pointer (some ⟨D, 0, none⟩)]) (hpb : Arr w pb 31 #[.slice A b.length c])
    (hs : n.size ≤ 1000000000000000) (hu : usedL st.fs st.dir ≤ 1000000000) (hb : ∀ x ∈ st.fs, x.b.length ≤ 1000000000) (_ : b.length ≤ 1000000000000000) :
    Calls Try.prog 49 #[.pointer (some ⟨pd, 0, none⟩), .pointer (some ⟨pn, 0, none⟩), .pointer (some ⟨pb, 0, none⟩)] w (AskPost w (ownE st 1 n m b)) := by
  have h' := h
  obtain ⟨hφ, bn, bs, vp, Q, hk⟩ := h
  have cn : w.cell? ⟨pn, 0, none⟩ = some (.string n) := hn.at_ rfl
  have cd : w.cell? ⟨pd, 0, none⟩ = some (.pointer (some ⟨D, 0, none⟩)) := hd.at_ rfl
  have ht := there45 D bn _ _ φ _ n w hk.d rfl hk.now hs
  rw [ownE1]
  cases hf : fnd n.data.toList st.dir with
  | none =>
    have hh := fnd_none.1 hf
    clear hn hd hk hφ h' hpb hf
    go_enter Try.func49, Try.ntmps49
    go_wp2_with fail
    refine ht.mono ?_
    rintro e w1 ⟨rfl, _, he⟩
    obtain rfl := he hh
    go_wp2_with fail
    exact ⟨rfl, AskPost.no (by decide) (Below.refl _ _)⟩
  | some j =>
    have hh := (fnd_some hf).1
    have cb : w.cell? ⟨pb, 0, none⟩ = some (.slice A b.length c) := hpb.at_ rfl
    have c1 : w.cell? ⟨D, 1, none⟩ = some (.map (some bn)) := hk.d.at_ rfl
    have c0 : w.cell? ⟨D, 0, none⟩ = some (.int .i64 st.quota) := hk.d.at_ rfl
    have hlk := look_2 (w := w.drew) (own_heap hk.now.m rfl) n (by unfold maxLen; omega)
    obtain ⟨q, hq, hFq, hx, hat, _⟩ := hk.file hf
    rw [lkv_some hf, hFq] at hlk
    obtain ⟨A2, c2, hqs, _, _, _, _⟩ := hat.b.form
    have hb1 := hb _ (List.mem_of_getElem? hx)
    obtain ⟨l1, hl1⟩ : ∃ l1, l1 = (fl st.fs j).b.length := ⟨_, rfl⟩
    obtain ⟨l2, hl2⟩ : ∃ l2, l2 = b.length := ⟨_, rfl⟩
    have g0 : w.cell? ⟨q.1, 0, none⟩ = some (.slice A2 l1 c2) := by rw [hl1, ← hqs]; exact hat.a.at_ rfl
    rw [← hl1] at hb1
    rw [← hl2] at cb
    show Calls _ _ _ _ (AskPost w (if 16777216 < (fl st.fs j).b.length + b.length then 2 else if st.quota < (usedL st.fs st.dir : Int) + b.length then 11 else 0))
    rw [← hl1, ← hl2]
    obtain ⟨q1, hq1⟩ : ∃ q1, q1 = q.1 := ⟨_, rfl⟩
    rw [← hq1] at g0 hlk
    have hus := fun W (hb : Below w.heap.size w W) => used50 D st φ W (h'.below hb (Nat.le_refl _)) hu
    have hcs : Hid (∀ W, Below w.heap.size w W → W.cell? ⟨pb, 0, none⟩ = some (.slice A l2 c) ∧ W.cell? ⟨pd, 0, none⟩ = some (.pointer (some ⟨D, 0, none⟩)) ∧ W.cell? ⟨D, 0, none⟩ = some (.int .i64 st.quota)) := Lib.hid fun W hb =>
      ⟨(hb.cell (p := ⟨pb, 0, none⟩) hpb.lt).trans cb, (hb.cell (p := ⟨pd, 0, none⟩) hd.lt).trans cd, (hb.cell (p := ⟨D, 0, none⟩) hk.d.lt).trans c0⟩
    obtain ⟨us, hus0⟩ : ∃ us, us = usedL st.fs st.dir := ⟨_, rfl⟩
    rw [← hus0] at hu hus ⊢
    obtain ⟨qt, hqt⟩ : ∃ qt, qt = st.quota := ⟨_, rfl⟩
    have hq2 := hk.inv.quota
    rw [← hqt] at hq2 hcs c0 ⊢
    have HU := Lib.hid hus
    have e1 : IntKind.i64.wrap (16777216 - (l1 : Int)) = 16777216 - (l1 : Int) := IntWalk.i64_in _ (by omega)
    have e2 : IntKind.i64.wrap (qt - (us : Int)) = qt - (us : Int) := IntWalk.i64_in _ (by omega)
    have HN2 := Lib.hid (fun t W => need_any t 2 W)
    have HN11 := Lib.hid (fun t W => need_any t 11 W)
    clear hn hd hk hφ h' hpb hf hq hFq hx hat hqs hl1 hl2 hq1 hus hus0 hqt hb hq2 hb1 hu
    by_cases t1 : 16777216 < l1 + l2
    · have d1 : decide ((l2 : Int) ≤ 16777216 - (l1 : Int)) = false := decide_eq_false (by omega)
      rw [if_pos t1]
      clear t1 hcs HU e2 HN11
      go_enter Try.func49, Try.ntmps49
      go_wp2_with fail
      refine ht.mono ?_
      clear ht
      rintro e w1 ⟨rfl, he, _⟩
      obtain rfl := he hh
      clear he hh
      go_wp2_with fail
      refine wp_region_held_drew (S := fun w' => w'.cell? ⟨pb, 0, none⟩ = some (.slice A l2 c) ∧ w'.cell? ⟨pn, 0, none⟩ = some (.string n) ∧ w'.cell? ⟨pd, 0, none⟩ = some (.pointer (some ⟨D, 0, none⟩)) ∧ w'.cell? ⟨D, 1, none⟩ = some (.map (some bn)) ∧ (Instr.lookup 61 (.map (some bn)) (.string n) false).run Try.prog w' = .ok (.pointer (some ⟨q1, 0, none⟩)) w' ∧ w'.cell? ⟨q1, 0, none⟩ = some (.slice A2 l1 c2)) (by kernel_rfl) ⟨cb, cn, cd, c1, hlk, g0⟩ (fun hHeld => ?_)
      refine wpAnyH_take (i := 0) (oi := _) (v := ?_) (by rw [List.getElem?_toArray]; rfl) (by kernel_rfl) (by kernel_rfl) (by kernel_rfl) (by exact fun _ _ _ h => h) (Or.inl ⟨by rfl, ?_⟩) (by assumption) ?_
      rotate_left
      · (intro w9 hSw; (try dsimp only at hSw); go_simp; first | done | with_reducible rfl)
      try simp only [Act.put, List.setIfInBounds_toArray, List.set_cons_zero, List.set_cons_succ]
      refine wpAnyH_take (i := 1) (oi := _) (v := ?_) (by rw [List.getElem?_toArray]; rfl) (by kernel_rfl) (by kernel_rfl) (by kernel_rfl) (by exact fun _ _ _ h => h) (Or.inl ⟨by rfl, ?_⟩) (by assumption) ?_
      rotate_left
      · (intro w9 hSw; (try dsimp only at hSw); go_simp; first | done | with_reducible rfl)
      try simp only [Act.put, List.setIfInBounds_toArray, List.set_cons_zero, List.set_cons_succ]
      refine wpAnyH_take (i := 2) (oi := _) (v := ?_) (by rw [List.getElem?_toArray]; rfl) (by kernel_rfl) (by kernel_rfl) (by kernel_rfl) (by exact fun _ _ _ h => h) (Or.inl ⟨by rfl, ?_⟩) (by assumption) ?_
      rotate_left
      · (intro w9 hSw; (try dsimp only at hSw); go_simp; first | done | with_reducible rfl)
      try simp only [Act.put, List.setIfInBounds_toArray, List.set_cons_zero, List.set_cons_succ]
      refine wpAnyH_take (i := 3) (oi := _) (v := ?_) (by rw [List.getElem?_toArray]; rfl) (by kernel_rfl) (by kernel_rfl) (by kernel_rfl) (by exact fun _ _ _ h => h) (Or.inl ⟨by rfl, ?_⟩) (by assumption) ?_
      rotate_left
      · (intro w9 hSw; (try dsimp only at hSw); go_simp; first | done | with_reducible rfl)
      try simp only [Act.put, List.setIfInBounds_toArray, List.set_cons_zero, List.set_cons_succ]
      refine wpAnyH_take (i := 4) (oi := _) (v := ?_) (by rw [List.getElem?_toArray]; rfl) (by kernel_rfl) (by kernel_rfl) (by kernel_rfl) (by exact fun _ _ _ h => h) (Or.inl ⟨by rfl, ?_⟩) (by assumption) ?_
      rotate_left
      · (intro w9 hSw; (try dsimp only at hSw); go_simp; first | done | with_reducible rfl)
      try simp only [Act.put, List.setIfInBounds_toArray, List.set_cons_zero, List.set_cons_succ]
      refine wpAnyH_take (i := 5) (oi := _) (v := ?_) (by rw [List.getElem?_toArray]; rfl) (by kernel_rfl) (by kernel_rfl) (by kernel_rfl) (by exact fun _ _ _ h => h) (Or.inl ⟨by rfl, ?_⟩) (by assumption) ?_
      rotate_left
      · (intro w9 hSw; (try dsimp only at hSw); go_simp; first | done | with_reducible rfl)
      try simp only [Act.put, List.setIfInBounds_toArray, List.set_cons_zero, List.set_cons_succ]
      refine wpAnyH_take (i := 6) (oi := _) (v := ?_) (by rw [List.getElem?_toArray]; rfl) (by kernel_rfl) (by kernel_rfl) (by kernel_rfl) (by exact fun _ _ _ h => h) (Or.inl ⟨by rfl, ?_⟩) (by assumption) ?_
      rotate_left
      · (intro w9 hSw; (try dsimp only at hSw); go_simp; first | done | with_reducible rfl)
      try simp only [Act.put, List.setIfInBounds_toArray, List.set_cons_zero, List.set_cons_succ]
      refine wpAnyH_take (i := 7) (oi := _) (v := ?_) (by rw [List.getElem?_toArray]; rfl) (by kernel_rfl) (by kernel_rfl) (by kernel_rfl) (by exact fun _ _ _ h => h) (Or.inl ⟨by rfl, ?_⟩) (by assumption) ?_
      rotate_left
      · (intro w9 hSw; (try dsimp only at hSw); go_simp; first | done | with_reducible rfl)
      try simp only [Act.put, List.setIfInBounds_toArray, List.set_cons_zero, List.set_cons_succ]
      refine wpAnyH_take (i := 8) (oi := _) (v := ?_) (by rw [List.getElem?_toArray]; rfl) (by kernel_rfl) (by kernel_rfl) (by kernel_rfl) (by exact fun _ _ _ h => h) (Or.inl ⟨by rfl, ?_⟩) (by assumption) ?_
      rotate_left
      · (intro w9 hSw; (try dsimp only at hSw); go_simp; first | done | with_reducible rfl)
      try simp only [Act.put, List.setIfInBounds_toArray, List.set_cons_zero, List.set_cons_succ]
      refine wpAnyH_take (i := 9) (oi := _) (v := ?_) (by rw [List.getElem?_toArray]; rfl) (by kernel_rfl) (by kernel_rfl) (by kernel_rfl) (by exact fun _ _ _ h => h) (Or.inl ⟨by rfl, ?_⟩) (by assumption) ?_
      rotate_left
      · (intro w9 hSw; (try dsimp only at hSw); go_simp; first | done | with_reducible rfl)
      try simp only [Act.put, List.setIfInBounds_toArray, List.set_cons_zero, List.set_cons_succ]
      refine wpAnyH_take (i := 10) (oi := _) (v := ?_) (by rw [List.getElem?_toArray]; rfl) (by kernel_rfl) (by kernel_rfl) (by kernel_rfl) (by exact fun _ _ _ h => h) (Or.inl ⟨by rfl, ?_⟩) (by assumption) ?_
      rotate_left
      · (intro w9 hSw; (try dsimp only at hSw); go_simp; first | done | with_reducible rfl)
      try simp only [Act.put, List.setIfInBounds_toArray, List.set_cons_zero, List.set_cons_succ]
      refine wpAnyH_take (i := 11) (oi := _) (v := ?_) (by rw [List.getElem?_toArray]; rfl) (by kernel_rfl) (by kernel_rfl) (by kernel_rfl) (by exact fun _ _ _ h => h) (Or.inl ⟨by rfl, ?_⟩) (by assumption) ?_
      rotate_left
      · (intro w9 hSw; (try dsimp only at hSw); go_simp; first | done | with_reducible rfl)
      try simp only [Act.put, List.setIfInBounds_toArray, List.set_cons_zero, List.set_cons_succ]
      refine wpAnyH_take (i := 12) (oi := _) (v := ?_) (by rw [List.getElem?_toArray]; rfl) (by kernel_rfl) (by kernel_rfl) (by kernel_rfl) (by exact fun _ _ _ h => h) (Or.inl ⟨by rfl, ?_⟩) (by assumption) ?_
      rotate_left
      · (intro w9 hSw; (try dsimp only at hSw); go_simp; first | done | with_reducible rfl)
      try simp only [Act.put, List.setIfInBounds_toArray, List.set_cons_zero, List.set_cons_succ]
      refine wpAnyH_take (i := 13) (oi := _) (v := ?_) (by rw [List.getElem?_toArray]; rfl) (by kernel_rfl) (by kernel_rfl) (by kernel_rfl) (by exact fun _ _ _ h => h) (Or.inl ⟨by rfl, ?_⟩) (by assumption) ?_
      rotate_left
      · (intro w9 hSw; (try dsimp only at hSw); go_simp; first | done | with_reducible rfl)
      try simp only [Act.put, List.setIfInBounds_toArray, List.set_cons_zero, List.set_cons_succ]
      refine wpAnyH_ready (rs := [14]) (by kernel_rfl) (by simp) ?_
      refine AllReadyH.cons (o := _) (by rw [List.getElem?_toArray]; rfl) (fun K hK => ?_) AllReadyH.nil
      rw [if_pos (by rfl)]
      go_simp
      refine (HN2.out _ _).mono ?_
      rintro e w2 ⟨rfl, _, he⟩
      obtain rfl := he rfl
      go_wp2_with fail
      exact ⟨rfl, AskPost.no (by decide) (Below.refl _ _).drew⟩
    · have d1 : decide ((l2 : Int) ≤ 16777216 - (l1 : Int)) = true := decide_eq_true (by omega)
      rw [if_neg t1]
      clear t1
      by_cases t2 : qt < (us : Int) + l2
      · have d2 : decide ((l2 : Int) ≤ qt - (us : Int)) = false := decide_eq_false (by omega)
        rw [if_pos t2]
        clear t2
        go_enter Try.func49, Try.ntmps49
        go_wp2_with fail
        refine ht.mono ?_
        clear ht
        rintro e w1 ⟨rfl, he, _⟩
        obtain rfl := he hh
        clear he hh
        go_wp2_with fail
        refine wp_region_held_drew (S := fun w' => w'.cell? ⟨pb, 0, none⟩ = some (.slice A l2 c) ∧ w'.cell? ⟨pn, 0, none⟩ = some (.string n) ∧ w'.cell? ⟨pd, 0, none⟩ = some (.pointer (some ⟨D, 0, none⟩)) ∧ w'.cell? ⟨D, 1, none⟩ = some (.map (some bn)) ∧ (Instr.lookup 61 (.map (some bn)) (.string n) false).run Try.prog w' = .ok (.pointer (some ⟨q1, 0, none⟩)) w' ∧ w'.cell? ⟨q1, 0, none⟩ = some (.slice A2 l1 c2)) (by kernel_rfl) ⟨cb, cn, cd, c1, hlk, g0⟩ (fun hHeld => ?_)
        refine wpAnyH_take (i := 0) (oi := _) (v := ?_) (by rw [List.getElem?_toArray]; rfl) (by kernel_rfl) (by kernel_rfl) (by kernel_rfl) (by exact fun _ _ _ h => h) (Or.inl ⟨by rfl, ?_⟩) (by assumption) ?_
        rotate_left
        · (intro w9 hSw; (try dsimp only at hSw); go_simp; first | done | with_reducible rfl)
        try simp only [Act.put, List.setIfInBounds_toArray, List.set_cons_zero, List.set_cons_succ]
        refine wpAnyH_take (i := 1) (oi := _) (v := ?_) (by rw [List.getElem?_toArray]; rfl) (by kernel_rfl) (by kernel_rfl) (by kernel_rfl) (by exact fun _ _ _ h => h) (Or.inl ⟨by rfl, ?_⟩) (by assumption) ?_
        rotate_left
        · (intro w9 hSw; (try dsimp only at hSw); go_simp; first | done | with_reducible rfl)
        try simp only [Act.put, List.setIfInBounds_toArray, List.set_cons_zero, List.set_cons_succ]
        refine wpAnyH_take (i := 2) (oi := _) (v := ?_) (by rw [List.getElem?_toArray]; rfl) (by kernel_rfl) (by kernel_rfl) (by kernel_rfl) (by exact fun _ _ _ h => h) (Or.inl ⟨by rfl, ?_⟩) (by assumption) ?_
        rotate_left
        · (intro w9 hSw; (try dsimp only at hSw); go_simp; first | done | with_reducible rfl)
        try simp only [Act.put, List.setIfInBounds_toArray, List.set_cons_zero, List.set_cons_succ]
        refine wpAnyH_take (i := 3) (oi := _) (v := ?_) (by rw [List.getElem?_toArray]; rfl) (by kernel_rfl) (by kernel_rfl) (by kernel_rfl) (by exact fun _ _ _ h => h) (Or.inl ⟨by rfl, ?_⟩) (by assumption) ?_
        rotate_left
        · (intro w9 hSw; (try dsimp only at hSw); go_simp; first | done | with_reducible rfl)
        try simp only [Act.put, List.setIfInBounds_toArray, List.set_cons_zero, List.set_cons_succ]
        refine wpAnyH_take (i := 4) (oi := _) (v := ?_) (by rw [List.getElem?_toArray]; rfl) (by kernel_rfl) (by kernel_rfl) (by kernel_rfl) (by exact fun _ _ _ h => h) (Or.inl ⟨by rfl, ?_⟩) (by assumption) ?_
        rotate_left
        · (intro w9 hSw; (try dsimp only at hSw); go_simp; first | done | with_reducible rfl)
        try simp only [Act.put, List.setIfInBounds_toArray, List.set_cons_zero, List.set_cons_succ]
        refine wpAnyH_take (i := 5) (oi := _) (v := ?_) (by rw [List.getElem?_toArray]; rfl) (by kernel_rfl) (by kernel_rfl) (by kernel_rfl) (by exact fun _ _ _ h => h) (Or.inl ⟨by rfl, ?_⟩) (by assumption) ?_
        rotate_left
        · (intro w9 hSw; (try dsimp only at hSw); go_simp; first | done | with_reducible rfl)
        try simp only [Act.put, List.setIfInBounds_toArray, List.set_cons_zero, List.set_cons_succ]
        refine wpAnyH_take (i := 6) (oi := _) (v := ?_) (by rw [List.getElem?_toArray]; rfl) (by kernel_rfl) (by kernel_rfl) (by kernel_rfl) (by exact fun _ _ _ h => h) (Or.inl ⟨by rfl, ?_⟩) (by assumption) ?_
        rotate_left
        · (intro w9 hSw; (try dsimp only at hSw); go_simp; first | done | with_reducible rfl)
        try simp only [Act.put, List.setIfInBounds_toArray, List.set_cons_zero, List.set_cons_succ]
        refine wpAnyH_take (i := 7) (oi := _) (v := ?_) (by rw [List.getElem?_toArray]; rfl) (by kernel_rfl) (by kernel_rfl) (by kernel_rfl) (by exact fun _ _ _ h => h) (Or.inl ⟨by rfl, ?_⟩) (by assumption) ?_
        rotate_left
        · (intro w9 hSw; (try dsimp only at hSw); go_simp; first | done | with_reducible rfl)
        try simp only [Act.put, List.setIfInBounds_toArray, List.set_cons_zero, List.set_cons_succ]
        refine wpAnyH_take (i := 8) (oi := _) (v := ?_) (by rw [List.getElem?_toArray]; rfl) (by kernel_rfl) (by kernel_rfl) (by kernel_rfl) (by exact fun _ _ _ h => h) (Or.inl ⟨by rfl, ?_⟩) (by assumption) ?_
        rotate_left
        · (intro w9 hSw; (try dsimp only at hSw); go_simp; first | done | with_reducible rfl)
        try simp only [Act.put, List.setIfInBounds_toArray, List.set_cons_zero, List.set_cons_succ]
        refine wpAnyH_take (i := 9) (oi := _) (v := ?_) (by rw [List.getElem?_toArray]; rfl) (by kernel_rfl) (by kernel_rfl) (by kernel_rfl) (by exact fun _ _ _ h => h) (Or.inl ⟨by rfl, ?_⟩) (by assumption) ?_
        rotate_left
        · (intro w9 hSw; (try dsimp only at hSw); go_simp; first | done | with_reducible rfl)
        try simp only [Act.put, List.setIfInBounds_toArray, List.set_cons_zero, List.set_cons_succ]
        refine wpAnyH_take (i := 10) (oi := _) (v := ?_) (by rw [List.getElem?_toArray]; rfl) (by kernel_rfl) (by kernel_rfl) (by kernel_rfl) (by exact fun _ _ _ h => h) (Or.inl ⟨by rfl, ?_⟩) (by assumption) ?_
        rotate_left
        · (intro w9 hSw; (try dsimp only at hSw); go_simp; first | done | with_reducible rfl)
        try simp only [Act.put, List.setIfInBounds_toArray, List.set_cons_zero, List.set_cons_succ]
        refine wpAnyH_take (i := 11) (oi := _) (v := ?_) (by rw [List.getElem?_toArray]; rfl) (by kernel_rfl) (by kernel_rfl) (by kernel_rfl) (by exact fun _ _ _ h => h) (Or.inl ⟨by rfl, ?_⟩) (by assumption) ?_
        rotate_left
        · (intro w9 hSw; (try dsimp only at hSw); go_simp; first | done | with_reducible rfl)
        try simp only [Act.put, List.setIfInBounds_toArray, List.set_cons_zero, List.set_cons_succ]
        refine wpAnyH_take (i := 12) (oi := _) (v := ?_) (by rw [List.getElem?_toArray]; rfl) (by kernel_rfl) (by kernel_rfl) (by kernel_rfl) (by exact fun _ _ _ h => h) (Or.inl ⟨by rfl, ?_⟩) (by assumption) ?_
        rotate_left
        · (intro w9 hSw; (try dsimp only at hSw); go_simp; first | done | with_reducible rfl)
        try simp only [Act.put, List.setIfInBounds_toArray, List.set_cons_zero, List.set_cons_succ]
        refine wpAnyH_take (i := 13) (oi := _) (v := ?_) (by rw [List.getElem?_toArray]; rfl) (by kernel_rfl) (by kernel_rfl) (by kernel_rfl) (by exact fun _ _ _ h => h) (Or.inl ⟨by rfl, ?_⟩) (by assumption) ?_
        rotate_left
        · (intro w9 hSw; (try dsimp only at hSw); go_simp; first | done | with_reducible rfl)
        try simp only [Act.put, List.setIfInBounds_toArray, List.set_cons_zero, List.set_cons_succ]
        refine wpAnyH_ready (rs := [14]) (by kernel_rfl) (by simp) ?_
        refine AllReadyH.cons (o := _) (by rw [List.getElem?_toArray]; rfl) (fun K hK => ?_) AllReadyH.nil
        rw [if_pos (by rfl)]
        go_simp
        refine (HN2.out _ _).mono ?_
        rintro e w2 ⟨hw2, he, _⟩
        obtain rfl := he rfl
        rw [hw2]
        clear hw2 w2 he
        go_wp2_with fail
        refine hK.out _ _ hHeld (fun hHeld => ?_)
        clear hK K
        try simp only [Act.put, List.setIfInBounds_toArray, List.set_cons_zero, List.set_cons_succ]
        refine wpAnyH_done (by kernel_rfl) ?_ _
        clear hHeld
        have hcs0 := hcs.out w1.drew.drew (Below.refl _ w1).drew.drew
        go_wp2_with fail
        refine wp_region_held_drew (S := fun w' => w'.cell? ⟨pb, 0, none⟩ = some (.slice A l2 c) ∧ w'.cell? ⟨pd, 0, none⟩ = some (.pointer (some ⟨D, 0, none⟩)) ∧ w'.cell? ⟨D, 0, none⟩ = some (.int .i64 qt)) (by kernel_rfl) ⟨hcs0.1, hcs0.2.1, hcs0.2.2⟩ (fun hHeld => ?_)
        refine wpAnyH_take (i := 0) (oi := _) (v := ?_) (by rw [List.getElem?_toArray]; rfl) (by kernel_rfl) (by kernel_rfl) (by kernel_rfl) (by exact fun _ _ _ h => h) (Or.inl ⟨by rfl, ?_⟩) (by assumption) ?_
        rotate_left
        · (intro w9 hSw; (try dsimp only at hSw); go_simp; first | done | with_reducible rfl)
        try simp only [Act.put, List.setIfInBounds_toArray, List.set_cons_zero, List.set_cons_succ]
        refine wpAnyH_take (i := 1) (oi := _) (v := ?_) (by rw [List.getElem?_toArray]; rfl) (by kernel_rfl) (by kernel_rfl) (by kernel_rfl) (by exact fun _ _ _ h => h) (Or.inl ⟨by rfl, ?_⟩) (by assumption) ?_
        rotate_left
        · (intro w9 hSw; (try dsimp only at hSw); go_simp; first | done | with_reducible rfl)
        try simp only [Act.put, List.setIfInBounds_toArray, List.set_cons_zero, List.set_cons_succ]
        refine wpAnyH_take (i := 2) (oi := _) (v := ?_) (by rw [List.getElem?_toArray]; rfl) (by kernel_rfl) (by kernel_rfl) (by kernel_rfl) (by exact fun _ _ _ h => h) (Or.inl ⟨by rfl, ?_⟩) (by assumption) ?_
        rotate_left
        · (intro w9 hSw; (try dsimp only at hSw); go_simp; first | done | with_reducible rfl)
        try simp only [Act.put, List.setIfInBounds_toArray, List.set_cons_zero, List.set_cons_succ]
        refine wpAnyH_take (i := 3) (oi := _) (v := ?_) (by rw [List.getElem?_toArray]; rfl) (by kernel_rfl) (by kernel_rfl) (by kernel_rfl) (by exact fun _ _ _ h => h) (Or.inl ⟨by rfl, ?_⟩) (by assumption) ?_
        rotate_left
        · (intro w9 hSw; (try dsimp only at hSw); go_simp; first | done | with_reducible rfl)
        try simp only [Act.put, List.setIfInBounds_toArray, List.set_cons_zero, List.set_cons_succ]
        refine wpAnyH_take (i := 4) (oi := _) (v := ?_) (by rw [List.getElem?_toArray]; rfl) (by kernel_rfl) (by kernel_rfl) (by kernel_rfl) (by exact fun _ _ _ h => h) (Or.inl ⟨by rfl, ?_⟩) (by assumption) ?_
        rotate_left
        · (intro w9 hSw; (try dsimp only at hSw); go_simp; first | done | with_reducible rfl)
        try simp only [Act.put, List.setIfInBounds_toArray, List.set_cons_zero, List.set_cons_succ]
        refine wpAnyH_take (i := 5) (oi := _) (v := ?_) (by rw [List.getElem?_toArray]; rfl) (by kernel_rfl) (by kernel_rfl) (by kernel_rfl) (by exact fun _ _ _ h => h) (Or.inl ⟨by rfl, ?_⟩) (by assumption) ?_
        rotate_left
        · (intro w9 hSw; (try dsimp only at hSw); go_simp; first | done | with_reducible rfl)
        try simp only [Act.put, List.setIfInBounds_toArray, List.set_cons_zero, List.set_cons_succ]
        refine wpAnyH_take (i := 6) (oi := _) (v := ?_) (by rw [List.getElem?_toArray]; rfl) (by kernel_rfl) (by kernel_rfl) (by kernel_rfl) (by exact fun _ _ _ h => h) (Or.inl ⟨by rfl, ?_⟩) (by assumption) ?_
        rotate_left
        · (intro w9 hSw; (try dsimp only at hSw); go_simp; first | done | with_reducible rfl)
        try simp only [Act.put, List.setIfInBounds_toArray, List.set_cons_zero, List.set_cons_succ]
        refine wpAnyH_ready (rs := [7]) (by kernel_rfl) (by simp) ?_
        refine AllReadyH.cons (o := _) (by rw [List.getElem?_toArray]; rfl) (fun K hK => ?_) AllReadyH.nil
        rw [if_pos (by rfl)]
        go_simp
        refine (HU.out w1.drew.drew (Below.refl _ w1).drew.drew).mono ?_
        rintro e w3 ⟨rfl, hb3'⟩
        have hb3 : Below w1.heap.size w1 w3 := (Below.refl _ w1).drew.drew.trans hb3'
        have hcs3 := hcs.out w3 hb3
        clear hb3'
        go_wp2_with fail
        refine hK.out _ _ ⟨hcs3.1, hcs3.2.1, hcs3.2.2⟩ (fun hHeld => ?_)
        clear hK K
        try simp only [Act.put, List.setIfInBounds_toArray, List.set_cons_zero, List.set_cons_succ]
        refine wpAnyH_take (i := 8) (oi := _) (v := ?_) (by rw [List.getElem?_toArray]; rfl) (by kernel_rfl) (by kernel_rfl) (by kernel_rfl) (by exact fun _ _ _ h => h) (Or.inl ⟨by rfl, ?_⟩) (by assumption) ?_
        rotate_left
        · (intro w9 hSw; (try dsimp only at hSw); go_simp; first | done | with_reducible rfl)
        try simp only [Act.put, List.setIfInBounds_toArray, List.set_cons_zero, List.set_cons_succ]
        refine wpAnyH_take (i := 9) (oi := _) (v := ?_) (by rw [List.getElem?_toArray]; rfl) (by kernel_rfl) (by kernel_rfl) (by kernel_rfl) (by exact fun _ _ _ h => h) (Or.inl ⟨by rfl, ?_⟩) (by assumption) ?_
        rotate_left
        · (intro w9 hSw; (try dsimp only at hSw); go_simp; first | done | with_reducible rfl)
        try simp only [Act.put, List.setIfInBounds_toArray, List.set_cons_zero, List.set_cons_succ]
        refine wpAnyH_ready (rs := [10]) (by kernel_rfl) (by simp) ?_
        refine AllReadyH.cons (o := _) (by rw [List.getElem?_toArray]; rfl) (fun K hK => ?_) AllReadyH.nil
        rw [if_pos (by rfl)]
        go_simp
        refine (HN11.out _ _).mono ?_
        rintro e w4 ⟨hw4, _, he⟩
        obtain rfl := he rfl
        rw [hw4]
        go_wp2_with fail
        exact ⟨rfl, AskPost.no (by decide) hb3⟩
      · have d2 : decide ((l2 : Int) ≤ qt - (us : Int)) = true := decide_eq_true (by omega)
        rw [if_neg t2]
        clear t2
        go_enter Try.func49, Try.ntmps49
        go_wp2_with fail
        refine ht.mono ?_
        clear ht
        rintro e w1 ⟨rfl, he, _⟩
        obtain rfl := he hh
        clear he hh
        go_wp2_with fail
        refine wp_region_held_drew (S := fun w' => w'.cell? ⟨pb, 0, none⟩ = some (.slice A l2 c) ∧ w'.cell? ⟨pn, 0, none⟩ = some (.string n) ∧ w'.cell? ⟨pd, 0, none⟩ = some (.pointer (some ⟨D, 0, none⟩)) ∧ w'.cell? ⟨D, 1, none⟩ = some (.map (some bn)) ∧ (Instr.lookup 61 (.map (some bn)) (.string n) false).run Try.prog w' = .ok (.pointer (some ⟨q1, 0, none⟩)) w' ∧ w'.cell? ⟨q1, 0, none⟩ = some (.slice A2 l1 c2)) (by kernel_rfl) ⟨cb, cn, cd, c1, hlk, g0⟩ (fun hHeld => ?_)
        refine wpAnyH_take (i := 0) (oi := _) (v := ?_) (by rw [List.getElem?_toArray]; rfl) (by kernel_rfl) (by kernel_rfl) (by kernel_rfl) (by exact fun _ _ _ h => h) (Or.inl ⟨by rfl, ?_⟩) (by assumption) ?_
        rotate_left
        · (intro w9 hSw; (try dsimp only at hSw); go_simp; first | done | with_reducible rfl)
        try simp only [Act.put, List.setIfInBounds_toArray, List.set_cons_zero, List.set_cons_succ]
        refine wpAnyH_take (i := 1) (oi := _) (v := ?_) (by rw [List.getElem?_toArray]; rfl) (by kernel_rfl) (by kernel_rfl) (by kernel_rfl) (by exact fun _ _ _ h => h) (Or.inl ⟨by rfl, ?_⟩) (by assumption) ?_
        rotate_left
        · (intro w9 hSw; (try dsimp only at hSw); go_simp; first | done | with_reducible rfl)
        try simp only [Act.put, List.setIfInBounds_toArray, List.set_cons_zero, List.set_cons_succ]
        refine wpAnyH_take (i := 2) (oi := _) (v := ?_) (by rw [List.getElem?_toArray]; rfl) (by kernel_rfl) (by kernel_rfl) (by kernel_rfl) (by exact fun _ _ _ h => h) (Or.inl ⟨by rfl, ?_⟩) (by assumption) ?_
        rotate_left
        · (intro w9 hSw; (try dsimp only at hSw); go_simp; first | done | with_reducible rfl)
        try simp only [Act.put, List.setIfInBounds_toArray, List.set_cons_zero, List.set_cons_succ]
        refine wpAnyH_take (i := 3) (oi := _) (v := ?_) (by rw [List.getElem?_toArray]; rfl) (by kernel_rfl) (by kernel_rfl) (by kernel_rfl) (by exact fun _ _ _ h => h) (Or.inl ⟨by rfl, ?_⟩) (by assumption) ?_
        rotate_left
        · (intro w9 hSw; (try dsimp only at hSw); go_simp; first | done | with_reducible rfl)
        try simp only [Act.put, List.setIfInBounds_toArray, List.set_cons_zero, List.set_cons_succ]
        refine wpAnyH_take (i := 4) (oi := _) (v := ?_) (by rw [List.getElem?_toArray]; rfl) (by kernel_rfl) (by kernel_rfl) (by kernel_rfl) (by exact fun _ _ _ h => h) (Or.inl ⟨by rfl, ?_⟩) (by assumption) ?_
        rotate_left
        · (intro w9 hSw; (try dsimp only at hSw); go_simp; first | done | with_reducible rfl)
        try simp only [Act.put, List.setIfInBounds_toArray, List.set_cons_zero, List.set_cons_succ]
        refine wpAnyH_take (i := 5) (oi := _) (v := ?_) (by rw [List.getElem?_toArray]; rfl) (by kernel_rfl) (by kernel_rfl) (by kernel_rfl) (by exact fun _ _ _ h => h) (Or.inl ⟨by rfl, ?_⟩) (by assumption) ?_
        rotate_left
        · (intro w9 hSw; (try dsimp only at hSw); go_simp; first | done | with_reducible rfl)
        try simp only [Act.put, List.setIfInBounds_toArray, List.set_cons_zero, List.set_cons_succ]
        refine wpAnyH_take (i := 6) (oi := _) (v := ?_) (by rw [List.getElem?_toArray]; rfl) (by kernel_rfl) (by kernel_rfl) (by kernel_rfl) (by exact fun _ _ _ h => h) (Or.inl ⟨by rfl, ?_⟩) (by assumption) ?_
        rotate_left
        · (intro w9 hSw; (try dsimp only at hSw); go_simp; first | done | with_reducible rfl)
        try simp only [Act.put, List.setIfInBounds_toArray, List.set_cons_zero, List.set_cons_succ]
        refine wpAnyH_take (i := 7) (oi := _) (v := ?_) (by rw [List.getElem?_toArray]; rfl) (by kernel_rfl) (by kernel_rfl) (by kernel_rfl) (by exact fun _ _ _ h => h) (Or.inl ⟨by rfl, ?_⟩) (by assumption) ?_
        rotate_left
        · (intro w9 hSw; (try dsimp only at hSw); go_simp; first | done | with_reducible rfl)
        try simp only [Act.put, List.setIfInBounds_toArray, List.set_cons_zero, List.set_cons_succ]
        refine wpAnyH_take (i := 8) (oi := _) (v := ?_) (by rw [List.getElem?_toArray]; rfl) (by kernel_rfl) (by kernel_rfl) (by kernel_rfl) (by exact fun _ _ _ h => h) (Or.inl ⟨by rfl, ?_⟩) (by assumption) ?_
        rotate_left
        · (intro w9 hSw; (try dsimp only at hSw); go_simp; first | done | with_reducible rfl)
        try simp only [Act.put, List.setIfInBounds_toArray, List.set_cons_zero, List.set_cons_succ]
        refine wpAnyH_take (i := 9) (oi := _) (v := ?_) (by rw [List.getElem?_toArray]; rfl) (by kernel_rfl) (by kernel_rfl) (by kernel_rfl) (by exact fun _ _ _ h => h) (Or.inl ⟨by rfl, ?_⟩) (by assumption) ?_
        rotate_left
        · (intro w9 hSw; (try dsimp only at hSw); go_simp; first | done | with_reducible rfl)
        try simp only [Act.put, List.setIfInBounds_toArray, List.set_cons_zero, List.set_cons_succ]
        refine wpAnyH_take (i := 10) (oi := _) (v := ?_) (by rw [List.getElem?_toArray]; rfl) (by kernel_rfl) (by kernel_rfl) (by kernel_rfl) (by exact fun _ _ _ h => h) (Or.inl ⟨by rfl, ?_⟩) (by assumption) ?_
        rotate_left
        · (intro w9 hSw; (try dsimp only at hSw); go_simp; first | done | with_reducible rfl)
        try simp only [Act.put, List.setIfInBounds_toArray, List.set_cons_zero, List.set_cons_succ]
        refine wpAnyH_take (i := 11) (oi := _) (v := ?_) (by rw [List.getElem?_toArray]; rfl) (by kernel_rfl) (by kernel_rfl) (by kernel_rfl) (by exact fun _ _ _ h => h) (Or.inl ⟨by rfl, ?_⟩) (by assumption) ?_
        rotate_left
        · (intro w9 hSw; (try dsimp only at hSw); go_simp; first | done | with_reducible rfl)
        try simp only [Act.put, List.setIfInBounds_toArray, List.set_cons_zero, List.set_cons_succ]
        refine wpAnyH_take (i := 12) (oi := _) (v := ?_) (by rw [List.getElem?_toArray]; rfl) (by kernel_rfl) (by kernel_rfl) (by kernel_rfl) (by exact fun _ _ _ h => h) (Or.inl ⟨by rfl, ?_⟩) (by assumption) ?_
        rotate_left
        · (intro w9 hSw; (try dsimp only at hSw); go_simp; first | done | with_reducible rfl)
        try simp only [Act.put, List.setIfInBounds_toArray, List.set_cons_zero, List.set_cons_succ]
        refine wpAnyH_take (i := 13) (oi := _) (v := ?_) (by rw [List.getElem?_toArray]; rfl) (by kernel_rfl) (by kernel_rfl) (by kernel_rfl) (by exact fun _ _ _ h => h) (Or.inl ⟨by rfl, ?_⟩) (by assumption) ?_
        rotate_left
        · (intro w9 hSw; (try dsimp only at hSw); go_simp; first | done | with_reducible rfl)
        try simp only [Act.put, List.setIfInBounds_toArray, List.set_cons_zero, List.set_cons_succ]
        refine wpAnyH_ready (rs := [14]) (by kernel_rfl) (by simp) ?_
        refine AllReadyH.cons (o := _) (by rw [List.getElem?_toArray]; rfl) (fun K hK => ?_) AllReadyH.nil
        rw [if_pos (by rfl)]
        go_simp
        refine (HN2.out _ _).mono ?_
        rintro e w2 ⟨hw2, he, _⟩
        obtain rfl := he rfl
        rw [hw2]
        clear hw2 w2 he
        go_wp2_with fail
        refine hK.out _ _ hHeld (fun hHeld => ?_)
        clear hK K
        try simp only [Act.put, List.setIfInBounds_toArray, List.set_cons_zero, List.set_cons_succ]
        refine wpAnyH_done (by kernel_rfl) ?_ _
        clear hHeld
        have hcs0 := hcs.out w1.drew.drew (Below.refl _ w1).drew.drew
        go_wp2_with fail
        refine wp_region_held_drew (S := fun w' => w'.cell? ⟨pb, 0, none⟩ = some (.slice A l2 c) ∧ w'.cell? ⟨pd, 0, none⟩ = some (.pointer (some ⟨D, 0, none⟩)) ∧ w'.cell? ⟨D, 0, none⟩ = some (.int .i64 qt)) (by kernel_rfl) ⟨hcs0.1, hcs0.2.1, hcs0.2.2⟩ (fun hHeld => ?_)
        refine wpAnyH_take (i := 0) (oi := _) (v := ?_) (by rw [List.getElem?_toArray]; rfl) (by kernel_rfl) (by kernel_rfl) (by kernel_rfl) (by exact fun _ _ _ h => h) (Or.inl ⟨by rfl, ?_⟩) (by assumption) ?_
        rotate_left
        · (intro w9 hSw; (try dsimp only at hSw); go_simp; first | done | with_reducible rfl)
        try simp only [Act.put, List.setIfInBounds_toArray, List.set_cons_zero, List.set_cons_succ]
        refine wpAnyH_take (i := 1) (oi := _) (v := ?_) (by rw [List.getElem?_toArray]; rfl) (by kernel_rfl) (by kernel_rfl) (by kernel_rfl) (by exact fun _ _ _ h => h) (Or.inl ⟨by rfl, ?_⟩) (by assumption) ?_
        rotate_left
        · (intro w9 hSw; (try dsimp only at hSw); go_simp; first | done | with_reducible rfl)
        try simp only [Act.put, List.setIfInBounds_toArray, List.set_cons_zero, List.set_cons_succ]
        refine wpAnyH_take (i := 2) (oi := _) (v := ?_) (by rw [List.getElem?_toArray]; rfl) (by kernel_rfl) (by kernel_rfl) (by kernel_rfl) (by exact fun _ _ _ h => h) (Or.inl ⟨by rfl, ?_⟩) (by assumption) ?_
        rotate_left
        · (intro w9 hSw; (try dsimp only at hSw); go_simp; first | done | with_reducible rfl)
        try simp only [Act.put, List.setIfInBounds_toArray, List.set_cons_zero, List.set_cons_succ]
        refine wpAnyH_take (i := 3) (oi := _) (v := ?_) (by rw [List.getElem?_toArray]; rfl) (by kernel_rfl) (by kernel_rfl) (by kernel_rfl) (by exact fun _ _ _ h => h) (Or.inl ⟨by rfl, ?_⟩) (by assumption) ?_
        rotate_left
        · (intro w9 hSw; (try dsimp only at hSw); go_simp; first | done | with_reducible rfl)
        try simp only [Act.put, List.setIfInBounds_toArray, List.set_cons_zero, List.set_cons_succ]
        refine wpAnyH_take (i := 4) (oi := _) (v := ?_) (by rw [List.getElem?_toArray]; rfl) (by kernel_rfl) (by kernel_rfl) (by kernel_rfl) (by exact fun _ _ _ h => h) (Or.inl ⟨by rfl, ?_⟩) (by assumption) ?_
        rotate_left
        · (intro w9 hSw; (try dsimp only at hSw); go_simp; first | done | with_reducible rfl)
        try simp only [Act.put, List.setIfInBounds_toArray, List.set_cons_zero, List.set_cons_succ]
        refine wpAnyH_take (i := 5) (oi := _) (v := ?_) (by rw [List.getElem?_toArray]; rfl) (by kernel_rfl) (by kernel_rfl) (by kernel_rfl) (by exact fun _ _ _ h => h) (Or.inl ⟨by rfl, ?_⟩) (by assumption) ?_
        rotate_left
        · (intro w9 hSw; (try dsimp only at hSw); go_simp; first | done | with_reducible rfl)
        try simp only [Act.put, List.setIfInBounds_toArray, List.set_cons_zero, List.set_cons_succ]
        refine wpAnyH_take (i := 6) (oi := _) (v := ?_) (by rw [List.getElem?_toArray]; rfl) (by kernel_rfl) (by kernel_rfl) (by kernel_rfl) (by exact fun _ _ _ h => h) (Or.inl ⟨by rfl, ?_⟩) (by assumption) ?_
        rotate_left
        · (intro w9 hSw; (try dsimp only at hSw); go_simp; first | done | with_reducible rfl)
        try simp only [Act.put, List.setIfInBounds_toArray, List.set_cons_zero, List.set_cons_succ]
        refine wpAnyH_ready (rs := [7]) (by kernel_rfl) (by simp) ?_
        refine AllReadyH.cons (o := _) (by rw [List.getElem?_toArray]; rfl) (fun K hK => ?_) AllReadyH.nil
        rw [if_pos (by rfl)]
        go_simp
        refine (HU.out w1.drew.drew (Below.refl _ w1).drew.drew).mono ?_
        rintro e w3 ⟨rfl, hb3'⟩
        have hb3 : Below w1.heap.size w1 w3 := (Below.refl _ w1).drew.drew.trans hb3'
        have hcs3 := hcs.out w3 hb3
        clear hb3'
        go_wp2_with fail
        refine hK.out _ _ ⟨hcs3.1, hcs3.2.1, hcs3.2.2⟩ (fun hHeld => ?_)
        clear hK K
        try simp only [Act.put, List.setIfInBounds_toArray, List.set_cons_zero, List.set_cons_succ]
        refine wpAnyH_take (i := 8) (oi := _) (v := ?_) (by rw [List.getElem?_toArray]; rfl) (by kernel_rfl) (by kernel_rfl) (by kernel_rfl) (by exact fun _ _ _ h => h) (Or.inl ⟨by rfl, ?_⟩) (by assumption) ?_
        rotate_left
        · (intro w9 hSw; (try dsimp only at hSw); go_simp; first | done | with_reducible rfl)
        try simp only [Act.put, List.setIfInBounds_toArray, List.set_cons_zero, List.set_cons_succ]
        refine wpAnyH_take (i := 9) (oi := _) (v := ?_) (by rw [List.getElem?_toArray]; rfl) (by kernel_rfl) (by kernel_rfl) (by kernel_rfl) (by exact fun _ _ _ h => h) (Or.inl ⟨by rfl, ?_⟩) (by assumption) ?_
        rotate_left
        · (intro w9 hSw; (try dsimp only at hSw); go_simp; first | done | with_reducible rfl)
        try simp only [Act.put, List.setIfInBounds_toArray, List.set_cons_zero, List.set_cons_succ]
        refine wpAnyH_ready (rs := [10]) (by kernel_rfl) (by simp) ?_
        refine AllReadyH.cons (o := _) (by rw [List.getElem?_toArray]; rfl) (fun K hK => ?_) AllReadyH.nil
        rw [if_pos (by rfl)]
        go_simp
        refine (HN11.out _ _).mono ?_
        rintro e w4 ⟨hw4, he, _⟩
        obtain rfl := he rfl
        rw [hw4]
        clear hw4 w4 he
        go_wp2_with fail
        refine hK.out _ _ ⟨hcs3.1, hcs3.2.1, hcs3.2.2⟩ (fun hHeld => ?_)
        clear hK K
        try simp only [Act.put, List.setIfInBounds_toArray, List.set_cons_zero, List.set_cons_succ]
        refine wpAnyH_done (by kernel_rfl) ?_ _
        go_wp2_with fail
        go_end0
        exact AskPost.yes hb3

theorem step_append_bts {w : World} {ops : Array Oper} {o : Oper} {a : Act} {K : Act → World → Prop} {Q : Exit → Act → World → Prop} {E : Prop} (hgd : o.guard = none) (s x : Operand)
    (ho : o.op = .call { callee := .builtin .append, args := #[s, x], argTypes := #[31, 31] }) (v : Value) (A : Option Addr) (m c : Nat) (hs : a.eval s = v) (hx : a.eval x = .slice A m c)
    (φ : Nat → Prop) (l l2 : List Nat) (B : Nat) (hb : Bts w φ v l) (hr : Rd w B A m (l2.map bv)) (hn : l.length + m ≤ 1000000000)
    (h : ∀ A' n' c' w', Bts w' (fun x => φ x ∨ w.heap.size ≤ x) (.slice A' n' c') (l ++ l2) → Kp (fun x => v.ownBlock = some x) w w' → ((Value.slice A' n' c').ownBlock = v.ownBlock ∨ ∃ g, (Value.slice A' n' c').ownBlock = some g ∧ w.heap.size ≤ g) → K (a.put o.dst (.slice A' n' c')) w') :
    if Region.wanted o (yielded ops a.tmps) = true then Oper.wp Try.prog o a w K Q else E := by
  have hw : Region.wanted o (yielded ops a.tmps) = true := by simp [Region.wanted, hgd]
  rw [if_pos hw]
  obtain ⟨v', w', hrun, h2, h3, h4⟩ := run_append_bts hb o.type A m c B l2 hr hn
  obtain ⟨A', c', rfl, _⟩ := h2.form
  unfold Oper.wp execOp
  simp only [ho, resolve, invoke, builtin, Sem.run_bind, Sem.run_pure, Result.andThen_ok, List.map_toArray, List.map_cons, List.map_nil, hs, hx, hrun]
  exact h A' _ c' w' h2 h3 h4

set_option maxRecDepth 100000 in
set_option maxHeartbeats 4000000 in
theorem append51 (D pn pd pb : Nat) (n m : ByteArray) (A : Option Addr) (c B : Nat) (b : List Nat) (st : Ds) (φ : Nat → Prop) (w : World) (h : DK w φ D st) (hn : Arr w pn 9 #[.string n]) (hd : Arr w pd 23 #[.pointer (some ⟨D, 0, none⟩)]) (hpb : Arr w pb 31 #[.slice A b.length c])
    (hr : Rd w B A b.length (b.map bv)) (hblt : ∀ y ∈ b, y < 256) (hs : n.size ≤ 1000000000000000) (hh : hasp n.data.toList st.dir = true) (hb : ∀ x ∈ st.fs, x.b.length + b.length ≤ 1000000000) :
    Calls Try.prog 51 #[.pointer (some ⟨pd, 0, none⟩), .pointer (some ⟨pn, 0, none⟩), .pointer (some ⟨pb, 0, none⟩)] w (DoPost w φ D (doS st 1 n m b)) := by
  obtain ⟨hφ, bn, bs, vp, Q, hk⟩ := h
  have cn : w.cell? ⟨pn, 0, none⟩ = some (.string n) := hn.at_ rfl
  have cd : w.cell? ⟨pd, 0, none⟩ = some (.pointer (some ⟨D, 0, none⟩)) := hd.at_ rfl
  have cb : w.cell? ⟨pb, 0, none⟩ = some (.slice A b.length c) := hpb.at_ rfl
  have c1 : w.cell? ⟨D, 1, none⟩ = some (.map (some bn)) := hk.d.at_ rfl
  obtain ⟨j, hj⟩ : ∃ j, fnd n.data.toList st.dir = some j := by
    cases hf : fnd n.data.toList st.dir with
    | none => have := fnd_none.1 hf; rw [hh] at this; cases this
    | some j => exact ⟨j, rfl⟩
  have hlk := look_2 (w := w.drew) (own_heap hk.now.m rfl) n (by unfold maxLen; omega)
  obtain ⟨q, hq, hFq, hx, hat, hrng⟩ := hk.file hj
  rw [lkv_some hj, hFq] at hlk
  have hb1 := hb _ (List.mem_of_getElem? hx)
  obtain ⟨y, hy⟩ : ∃ y, y = fl st.fs j := ⟨_, rfl⟩
  rw [← hy] at hat hrng hb1 hx
  have g0 : w.cell? ⟨q.1, 0, none⟩ = some q.2 := hat.a.at_ rfl
  have hqt := hat.a.ty
  have hqo : ∀ g, q.2.ownBlock = some g → ty w g = some 5 := fun g hg => by
    rcases hat.b with ⟨e0, _⟩ | ⟨g', c', cur, e0, _, ha, _⟩
    · rw [e0] at hg; cases hg
    · rw [e0] at hg
      simp [Value.ownBlock] at hg
      subst hg
      exact ha.ty
  have hne : q.2.ownBlock ≠ some q.1 := fun e => by have := hqo _ e; rw [hqt] at this; cases this
  have hq1lt := hat.a.lt
  have HA : Hid (∀ W, Kp (fun x => q.2.ownBlock = some x) w W → Arr W q.1 75 #[q.2, .int .i64 (y.s : Nat)]) := Lib.hid fun W k => hat.a.kp k hne
  have HF : Hid (∀ W A' n' c' w0, Kp (fun x => q.2.ownBlock = some x) w W → Bts W (fun x => φ x ∨ w.heap.size ≤ x) (.slice A' n' c') (y.b ++ b) → ((Value.slice A' n' c').ownBlock = q.2.ownBlock ∨ ∃ g, (Value.slice A' n' c').ownBlock = some g ∧ w.heap.size ≤ g) → w0 = W.setCell ⟨q.1, 0, none⟩ (.slice A' n' c') → DoPost w φ D (doS st 1 n m b) (.returned (.tuple #[])) w0) := by
    refine Lib.hid fun W A' n' c' w0 k hbt how h0 => ?_
    have hk1 : Kp (fun x => x = q.1 ∨ q.2.ownBlock = some x) w w0 := by rw [h0]; exact (k.mono fun _ _ h => .inr h).setCell (p := ⟨q.1, 0, none⟩) (.inl (.inl rfl)) _
    have hsz0 : W.heap.size = w0.heap.size := by rw [h0]; simp
    have hne' : (Value.slice A' n' c').ownBlock ≠ some q.1 := by
      rcases how with e | ⟨g, e, hl⟩
      · rw [e]; exact hne
      · rw [e]; intro e2; injection e2 with e2; omega
    have hF : FAt w0 (wid φ w w0) (q.1, .slice A' n' c') ⟨y.b ++ b, y.s⟩ := by
      refine ⟨?_, .inl hat.p, ?_⟩
      · rw [h0]
        exact (HA.out W k).set 0 (.slice A' n' c')
      · have hbt2 : Bts W (wid φ w w0) (.slice A' n' c') (y.b ++ b) := by
          rcases hbt with e | ⟨g, c2, cur, e1, e2, e3, e4⟩
          · exact .inl e
          · refine .inr ⟨g, c2, cur, e1, ?_, e3, e4⟩
            rcases e2 with e2 | e2
            · exact .inl e2
            · exact .inr ⟨e2, by rw [← hsz0]; exact e3.lt⟩
        refine hbt2.keep1 fun g hg _ hl => ?_
        rw [h0]
        exact Below.heap_setCell W _ _ g (by intro e; exact hne' (by rw [hg, e]))
    have hset := hk.setfile hφ hq hk1 hF how ⟨by show y.s ≤ (y.b ++ b).length; rw [List.length_append]; have := hrng.1; omega, fun z hz => by
      rcases List.mem_append.1 hz with hz | hz
      · exact hrng.2 z hz
      · exact hblt z hz⟩
    refine ⟨rfl, ⟨wid_lt (w := w) hφ hk1.size, bn, bs, vp, Q.set j (q.1, .slice A' n' c'), ?_⟩, ?_⟩
    · have e : doS st 1 n m b = { st with fs := st.fs.set j ⟨y.b ++ b, y.s⟩ } := by unfold doS; simp only [hj]; rw [hy]
      rw [e]
      exact hset
    · exact hk1.mono fun x hx' e => by
        rcases e with e | e
        · rw [e]; exact hat.p
        · exact (hat.b.own x e).1
  have HB := Lib.hid (And.intro hat.b (And.intro hr hb1))
  have HPB : Hid (∀ W, Kp (fun x => q.2.ownBlock = some x) w W → W.cell? ⟨pb, 0, none⟩ = some (.slice A b.length c)) := Lib.hid fun W k => (hpb.kp k (fun e => by have := hqo _ e; rw [hpb.ty] at this; cases this)).at_ rfl
  clear hn hd hk hφ hq hrng hj hh hb hx hy hFq hpb hr hblt hqo hqt hne hat hb1
  obtain ⟨qa, qv⟩ := q
  simp only at g0 hlk HF HA HB HPB hq1lt
  go_enter Try.func51, Try.ntmps51
  go_wp2_with fail
  go_region_held3 (fun w' => w'.cell? ⟨pn, 0, none⟩ = some (.string n) ∧ w'.cell? ⟨pd, 0, none⟩ = some (.pointer (some ⟨D, 0, none⟩)) ∧ w'.cell? ⟨D, 1, none⟩ = some (.map (some bn)) ∧ (Instr.lookup 61 (.map (some bn)) (.string n) false).run Try.prog w' = .ok (.pointer (some ⟨qa, 0, none⟩)) w') (exact ⟨cn, cd, c1, hlk⟩) (fail)
  go_wp2_with fail
  refine wp_region_noPanic ?_
  go_region_law ((refine step_append_bts rfl (.tmp 14) (.tmp 15) rfl qv A b.length c rfl rfl φ y.b b B HB.out.1 HB.out.2.1 HB.out.2.2 ?_; intro A' n' c' w5 hbt5 hk5' how5; have hk5 : Kp (fun x => qv.ownBlock = some x) w w5 := (by first | exact ((Kp.refl (fun x => qv.ownBlock = some x) w).drew.drew).trans hk5' (fun _ _ h => h) | exact ((Kp.refl (fun x => qv.ownBlock = some x) w).drew).trans hk5' (fun _ _ h => h) | exact hk5'); have hA5 := HA.out w5 hk5; have c5 : w5.cell? ⟨qa, 0, none⟩ = some qv := hA5.at_ rfl; have f5 := hA5.frozen 0; clear hA5))
  all_goals
    refine NoPanic.normal ?_
    have HX5 := Lib.hid (HF.out w5 A' n' c' _ hk5 hbt5 how5 rfl)
    clear hk5 hbt5 how5 hk5'
    go_wp2_with fail
    go_end0
    exact HX5.out
theorem Try.enters49 : Enters Try.prog 49 := enters_of Try.func49 (by kernel_rfl) rfl
theorem Try.enters51 : Enters Try.prog 51 := enters_of Try.func51 (by kernel_rfl) rfl

set_option maxRecDepth 100000 in
set_option maxHeartbeats 2000000 in
theorem append18 (D : Nat) (n : ByteArray) (A : Option Addr) (c B : Nat) (b : List Nat) (st : Ds) (φ : Nat → Prop) (w : World) (h : DK w φ D st) (hr : Rd w B A b.length (b.map bv)) (hB : B ≤ w.heap.size) (hblt : ∀ y ∈ b, y < 256) (hbl : b.length ≤ 1000000000) (hs : n.size ≤ 1000000000000000) (hst : st.steps ≤ 1000000000)
    (hu : usedL st.fs st.dir ≤ 1000000000) (hb : ∀ x ∈ st.fs, x.b.length + b.length ≤ 1000000000) :
    Calls Try.prog 18 #[.pointer (some ⟨D, 0, none⟩), .string n, .slice A b.length c] w (DPost w φ D (stepE st (ownE st 1 n noname b)) (stepS st (ownE st 1 n noname b) (doS st 1 n noname b))) := by
  have hmf := Try.make
  obtain ⟨W0, hW0⟩ : ∃ W0, W0 = ((w.alloc (.cells #[.pointer (some ⟨D, 0, none⟩)] 23)).alloc (.cells #[.string n] 9)).alloc (.cells #[.slice A b.length c] 31) := ⟨_, rfl⟩
  have hb0 : Below w.heap.size w W0 := by rw [hW0]; exact (((Below.refl _ w).alloc (Nat.le_refl _) _).alloc (by simp) _).alloc (by simp; omega) _
  have hd0 : Arr W0 w.heap.size 23 #[.pointer (some ⟨D, 0, none⟩)] := by rw [hW0]; exact ((Arr.new w 23 _).alloc _).alloc _
  have hn0 : Arr W0 (w.heap.size + 1) 9 #[.string n] := by
    have := (Arr.new (w.alloc (.cells #[.pointer (some ⟨D, 0, none⟩)] 23)) 9 #[.string n]).alloc (.cells #[.slice A b.length c] 31)
    rw [hW0]; rwa [World.size_alloc] at this
  have hm0 : Arr W0 (w.heap.size + 2) 31 #[.slice A b.length c] := by
    have := Arr.new ((w.alloc (.cells #[.pointer (some ⟨D, 0, none⟩)] 23)).alloc (.cells #[.string n] 9)) 31 #[.slice A b.length c]
    rw [hW0]; rwa [World.size_alloc, World.size_alloc] at this
  have hK := h.below hb0 (Nat.le_refl _)
  have hr0 := hr.below (hb0.mono hB)
  have hstep : Hid (Calls Try.prog 37 #[.pointer (some ⟨D, 0, none⟩), .func (.func 49) #[] #[.pointer (some ⟨w.heap.size, 0, none⟩), .pointer (some ⟨w.heap.size + 1, 0, none⟩), .pointer (some ⟨w.heap.size + 2, 0, none⟩)], .func (.func 51) #[] #[.pointer (some ⟨w.heap.size, 0, none⟩), .pointer (some ⟨w.heap.size + 1, 0, none⟩), .pointer (some ⟨w.heap.size + 2, 0, none⟩)]] W0
      (DPost W0 φ D (stepE st (ownE st 1 n noname b)) (stepS st (ownE st 1 n noname b) (doS st 1 n noname b)))) := by
    refine Lib.hid (step_all D 49 51 _ _ st _ φ _ W0 hK hst Try.enters49 Try.enters51 ?_ ?_ ?_)
    · unfold doS SameC
      cases fnd n.data.toList st.dir <;> exact ⟨rfl, rfl, rfl, rfl, rfl⟩
    · intro _ W hb' _
      exact append49 D _ _ _ n noname A c b st φ W (hK.below hb' (Nat.le_refl _)) (hn0.below hb' hn0.lt) (hd0.below hb' hd0.lt) (hm0.below hb' hm0.lt) hs hu (fun x hx => by have := hb x hx; omega) (by omega)
    · intro _ hown W hb' _
      have hh : hasp n.data.toList st.dir = true := by
        rw [ownE1] at hown
        cases hf : fnd n.data.toList st.dir with
        | none => rw [hf] at hown; cases hown
        | some j => exact (fnd_some hf).1
      exact append51 D _ _ _ n noname A c B b st φ W (hK.below hb' (Nat.le_refl _)) (hn0.below hb' hn0.lt) (hd0.below hb' hd0.lt) (hm0.below hb' hm0.lt) (hr0.below (hb'.mono (Nat.le_trans hB hb0.size))) hblt hs hh hb
  have HX := Lib.hid (And.intro hb0 h)
  clear hb0 hd0 hn0 hm0 hK h hr hr0
  go_enter Try.func18, Try.ntmps18
  go_wp2_with fail
  rw [← hW0]
  refine hstep.out.mono ?_
  clear hstep
  intro e w1 hp
  have HF := Lib.hid (DPost.late HX.out.2 HX.out.1 hp)
  obtain ⟨rfl, _, _⟩ := hp
  go_wp2_with fail
  go_ret
  exact HF.out
end Go.Proofs.Ytedjfbkfaioihaa
