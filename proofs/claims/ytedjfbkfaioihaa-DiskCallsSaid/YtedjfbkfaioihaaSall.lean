/- A step of a disk, whole: what it answers and leaves, of whatever it asks and does. Conditions: at most 10^9 steps were done. -/
import Derived.Test.YtedjfbkfaioihaaDmem
import Derived.Test.YtedjfbkfaioihaaStep
namespace Go.Proofs.Ytedjfbkfaioihaa
open Go.RowKit Go.Shelf

/-- What a call of the disk does. -/
def DPost (w : World) (φ : Nat → Prop) (D : Nat) (x : Int) (st' : Ds) (e : Ending) (w' : World) : Prop :=
  e = .returned (.int .i64 x) ∧ DK w' (wid φ w w') D st' ∧ Kp φ w w'
theorem DPost.below {w w' : World} {φ : Nat → Prop} {D : Nat} {x : Int} {st : Ds} (h : DK w φ D st) (k : Below w.heap.size w w') : DPost w φ D x st (.returned (.int .i64 x)) w' := ⟨rfl, h.wide k, Kp.none_of_below k⟩

/-- What a step asks. -/
def AskPost (W : World) (own : Int) (e : Ending) (w' : World) : Prop := (own = 0 → e = .returned (.tuple #[])) ∧ (own ≠ 0 → e = .panicked [{ v := stopv own, recovered := false }]) ∧ Below W.heap.size W w'
theorem AskPost.yes {W w' : World} (hb : Below W.heap.size W w') : AskPost W 0 (.returned (.tuple #[])) w' := ⟨fun _ => rfl, fun h => absurd rfl h, hb⟩
theorem AskPost.no {W w' : World} {own : Int} (h : own ≠ 0) (hb : Below W.heap.size W w') : AskPost W own (.panicked [{ v := stopv own, recovered := false }]) w' := ⟨fun e => absurd e h, fun _ => rfl, hb⟩
/-- What a step does. -/
def DoPost (W : World) (φ : Nat → Prop) (D : Nat) (st2 : Ds) (e : Ending) (w' : World) : Prop := e = .returned (.tuple #[]) ∧ DK w' (wid φ W w') D st2 ∧ Kp φ W w'
/-- A disk's four counts are as they were. -/
def SameC (st st2 : Ds) : Prop := st2.quota = st.quota ∧ st2.off = st.off ∧ st2.fuse = st.fuse ∧ st2.fault = st.fault ∧ st2.steps = st.steps

theorem less_range {n : Int} (h : -1 ≤ n ∧ n ≤ 9223372036854775807) : -1 ≤ less n ∧ less n ≤ 9223372036854775807 := by unfold less; split <;> omega

theorem step_all (D fa fd : Nat) (caps capd : Array Value) (st st2 : Ds) (φ : Nat → Prop) (own : Int) (w : World) (h : DK w φ D st) (hst : st.steps ≤ 1000000000) (hfa : Enters Try.prog fa) (hfd : Enters Try.prog fd) (hsame : SameC st st2)
    (hask : st.off = false → ∀ W, Below w.heap.size w W → w.heap.size < W.heap.size → Calls Try.prog fa caps W (AskPost W own))
    (hdo : st.off = false → own = 0 → ∀ W, Below w.heap.size w W → w.heap.size < W.heap.size → Calls Try.prog fd capd W (DoPost W φ D st2)) :
    Calls Try.prog 37 #[.pointer (some ⟨D, 0, none⟩), .func (.func fa) #[] caps, .func (.func fd) #[] capd] w (DPost w φ D (stepE st own) (stepS st own st2)) := by
  have hinv := h.inv
  obtain ⟨hφ, bn, bs, vp, Q, hk⟩ := id h
  have hd := hk.d
  unfold dcs at hd
  cases hoff : st.off with
  | true =>
    rw [hoff] at hd
    have e1 : stepE st own = 12 := by unfold stepE; rw [if_pos hoff]
    have e2 : stepS st own st2 = st := by unfold stepS; rw [if_pos hoff]
    rw [e1, e2]
    refine (step_off D _ _ _ _ _ _ _ _ _ w hd).mono ?_
    rintro e w' ⟨rfl, hb⟩
    exact DPost.below h hb
  | false =>
    rw [hoff] at hd
    have hask' := hask hoff
    have hdo' := hdo hoff
    have noff : ¬ st.off = true := by rw [hoff]; decide
    by_cases hfu : st.fuse = 0
    · have e1 : stepE st own = 12 := by unfold stepE; rw [if_neg noff, if_pos hfu]
      have e2 : stepS st own st2 = { st with off := true } := by unfold stepS; rw [if_neg noff, if_pos hfu]
      rw [e1, e2]
      rw [hfu] at hd
      refine (step_fuse D _ _ _ _ _ _ _ _ w hd).mono ?_
      rintro e w' ⟨rfl, hA, hkp⟩
      have hkφ : Kp φ w w' := hkp.mono fun x _ e => by rw [e]; exact hk.pd
      have hks : ∀ x, x ≠ D → x < w.heap.size → w'.heap[x]? = w.heap[x]? := fun x hx hl => hkp.block x hl hx
      refine ⟨rfl, ⟨wid_lt hφ hkp.size, bn, bs, vp, Q, (hk.cells (st' := { st with off := true }) (by unfold dcs; rw [hfu]; exact hA) (fun x hx _ hl => hks x hx hl) rfl rfl rfl rfl ?_).mono fun _ h => .inl h⟩, hkφ⟩
      exact { hinv with }
    · by_cases hown : own = 0
      · by_cases hft : st.fault = 0
        · have e1 : stepE st own = 10 := by unfold stepE; rw [if_neg noff, if_neg hfu, if_neg (by simpa using hown), if_pos hft]
          have e2 : stepS st own st2 = { st with fault := -1 } := by unfold stepS; rw [if_neg noff, if_neg hfu, if_neg (by simpa using hown), if_pos hft]
          rw [e1, e2]
          rw [hft] at hd
          refine (step_fault D fa caps st.fuse _ _ _ _ _ _ w hd hfu hfa fun W hb hl => (hask' W hb hl).mono fun e w' hp => ⟨hp.1 hown, hp.2.2⟩).mono ?_
          rintro e w' ⟨rfl, hA, hkp⟩
          have hkφ : Kp φ w w' := hkp.mono fun x _ e => by rw [e]; exact hk.pd
          have hks : ∀ x, x ≠ D → x < w.heap.size → w'.heap[x]? = w.heap[x]? := fun x hx hl => hkp.block x hl hx
          refine ⟨rfl, ⟨wid_lt hφ hkp.size, bn, bs, vp, Q, (hk.cells (st' := { st with fault := -1 }) (by unfold dcs; rw [hoff]; exact hA) (fun x hx _ hl => hks x hx hl) rfl rfl rfl rfl ?_).mono fun _ h => .inl h⟩, hkφ⟩
          exact { hinv with fault := by simp }
        · have e1 : stepE st own = 0 := by unfold stepE; rw [if_neg noff, if_neg hfu, if_neg (by simpa using hown), if_neg hft]
          have e2 : stepS st own st2 = { st2 with off := false, steps := st.steps + 1, fuse := less st.fuse, fault := less st.fault } := by unfold stepS; rw [if_neg noff, if_neg hfu, if_neg (by simpa using hown), if_neg hft]
          rw [e1, e2]
          obtain ⟨s1, s2, s3, s4, s5⟩ := hsame
          refine (step_do D fa fd caps capd st.fuse st.fault st.steps _ _ _ _ (fun W w1 q m1 m2 p => ∃ bn2 bs2 vp2 Q2, q = .int .i64 st2.quota ∧ m1 = .map (some bn2) ∧ m2 = .map (some bs2) ∧ p = vp2 ∧ Dk w1 (wid φ W w1) D bn2 bs2 vp2 Q2 st2 ∧ Kp φ W w1) w hd hfu hft hinv.fuse hinv.fault ⟨hinv.steps, hst⟩ hfa hfd
            (fun W hb hl => (hask' W hb hl).mono fun e w' hp => ⟨hp.1 hown, hp.2.2⟩)
            (fun W hb hl => (hdo' hown W hb hl).mono fun e w' hp => ?_)).mono ?_
          · obtain ⟨he, ⟨_, bn2, bs2, vp2, Q2, h2⟩, hkp⟩ := hp
            have hA2 := h2.d
            unfold dcs at hA2
            rw [s2, s3, s4, s5, hoff] at hA2
            exact ⟨he, _, _, _, _, hA2, ⟨bn2, bs2, vp2, Q2, rfl, rfl, rfl, rfl, h2, hkp⟩, hkp.mono fun x _ hx => hφ x hx⟩
          · rintro e w' ⟨rfl, W, w1, q, m1, m2, p, hbW, hsW, ⟨bn2, bs2, vp2, Q2, rfl, rfl, rfl, rfl, h2, hkp⟩, hsz, hA, hk1⟩
            have hDne : D ≠ w.heap.size := Nat.ne_of_lt hd.lt
            have hpt : ∀ x, wid φ W w1 x → x ≠ w.heap.size := by
              rintro x (hx | hx) e
              · have := hφ x hx; omega
              · omega
            have hcell := h2.cells (st' := { st2 with off := false, steps := st.steps + 1, fuse := less st.fuse, fault := less st.fault }) hA (fun x hx hφx hl => hk1.block x hl (by rintro (e | e); exact hx e; exact hpt x hφx e)) rfl rfl rfl rfl
              { h2.inv with fuse := less_range hinv.fuse, fault := less_range hinv.fault, steps := by have := hinv.steps; show 0 ≤ st.steps + 1; omega }
            have hs1 : w.heap.size ≤ w'.heap.size := Nat.le_trans (Nat.le_trans hbW.size hsz) hk1.size
            refine ⟨rfl, ⟨wid_lt hφ hs1, bn2, bs2, _, Q2, hcell.mono ?_⟩, ?_⟩
            · rintro x (hx | hx)
              · exact .inl hx
              · exact .inr ⟨Nat.le_trans hbW.size hx.1, Nat.lt_of_lt_of_le hx.2 hk1.size⟩
            · refine ((Kp.none_of_below (S := φ) hbW).trans hkp (fun _ _ h => h)).trans hk1 ?_
              rintro x hx (e | e)
              · rw [e]; exact hk.pd
              · omega
      · have e1 : stepE st own = own := by unfold stepE; rw [if_neg noff, if_neg hfu, if_pos hown]
        have e2 : stepS st own st2 = st := by unfold stepS; rw [if_neg noff, if_neg hfu, if_pos hown]
        rw [e1, e2]
        refine (step_ask D fa caps own st.fuse _ _ _ _ _ _ _ w hd hfu hfa fun W hb hl => (hask' W hb hl).mono fun e w' hp => ⟨hp.2.1 hown, hp.2.2⟩).mono ?_
        rintro e w' ⟨rfl, hb⟩
        exact DPost.below h hb
end Go.Proofs.Ytedjfbkfaioihaa
