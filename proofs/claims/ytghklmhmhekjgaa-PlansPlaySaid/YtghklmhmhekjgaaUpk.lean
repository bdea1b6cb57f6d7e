/- What bytes are as plans, plainly. No conditions. -/
import Derived.Test.YtghklmhmhekjgaaPlan
namespace Go.Proofs.Ytghklmhmhekjgaa
open Go.RowKit PC

/-- Plans that may stand in a table. -/
structure Good (M : List Pl) : Prop where
  ok : ∀ p ∈ M, OkP p.n p.f p.t p.r
  len : M.length ≤ 100
  ris : Ris M
theorem good_nil : Good [] := ⟨by simp, by simp, ris_nil⟩
theorem good_put {p : Pl} {M : List Pl} (h : Good M) (he : putE p M = 0) : OkP p.n p.f p.t p.r ∧ putL p M = putp p M ∧ Good (putp p M) := by
  unfold putE putL at *
  by_cases hp : OkP p.n p.f p.t p.r
  · rw [if_pos hp] at he ⊢
    by_cases h2 : hasp p.nm M = false ∧ 100 ≤ M.length
    · rw [if_pos h2] at he; cases he
    · rw [if_neg h2]
      refine ⟨hp, rfl, ⟨fun q hq => ?_, ?_, ris_put h.ris p⟩⟩
      · rcases mem_put.1 hq with rfl | ⟨hq, _⟩
        · exact hp
        · exact h.ok q hq
      · cases hh : hasp p.nm M with
        | false =>
          rw [length_put_new hh]
          have : ¬ 100 ≤ M.length := fun h3 => h2 ⟨hh, h3⟩
          omega
        | true => rw [length_put_old h.ris hh]; exact h.len
  · rw [if_neg hp] at he; cases he
/-- A round: the plan is read, and put. -/
def rndB (l : List Nat) (M : List Pl) : Prop := (rdS l).1 = false ∧ putE (rdP l) M = 0
instance (l : List Nat) (M : List Pl) : Decidable (rndB l M) := by unfold rndB; infer_instance
/-- So many rounds. -/
def upk : Nat → List Nat → List Pl → Option (List Pl)
  | 0, _, M => some M
  | n + 1, l, M => if rndB l M then upk n (rdS l).2 (putL (rdP l) M) else none
theorem upk_no {n : Nat} {l : List Nat} {M : List Pl} (h : ¬ rndB l M) (hn : 0 < n) : upk n l M = none := by
  obtain ⟨k, rfl⟩ : ∃ k, n = k + 1 := ⟨n - 1, by omega⟩
  rw [upk, if_neg h]
theorem upk_go {n : Nat} {l : List Nat} {M : List Pl} (h : rndB l M) (hn : 0 < n) : upk n l M = upk (n - 1) (rdS l).2 (putL (rdP l) M) := by
  obtain ⟨k, rfl⟩ : ∃ k, n = k + 1 := ⟨n - 1, by omega⟩
  rw [upk, if_pos h]
  rfl
theorem upk_good : ∀ {n : Nat} {l : List Nat} {M M' : List Pl}, Good M → upk n l M = some M' → Good M'
  | 0, l, M, M', h, e => by
    have : M = M' := by simpa [upk] using e
    subst this; exact h
  | n + 1, l, M, M', h, e => by
    rw [upk] at e
    split at e
    · rename_i hr
      obtain ⟨_, e2, h3⟩ := good_put h hr.2
      rw [e2] at e
      exact upk_good h3 e
    · cases e
/-- What the bytes are. -/
def ans (b : List Nat) : Option (List Pl) :=
  if (gL false b).1 = true then none
  else match upk (VgV b).toNat (gL false b).2 [] with
    | some M => if packL M = b then some M else none
    | none => none
theorem ans_bad {b : List Nat} (h : (gL false b).1 = true) : ans b = none := if_pos h
theorem ans_none {b : List Nat} (h : upk (VgV b).toNat (gL false b).2 [] = none) : ans b = none := by
  unfold ans; rw [h]; split <;> rfl
theorem ans_eq {b : List Nat} {M : List Pl} (h0 : (gL false b).1 = false) (h : upk (VgV b).toNat (gL false b).2 [] = some M) (hp : packL M = b) : ans b = some M := by
  unfold ans; rw [h, if_neg (by rw [h0]; decide)]; exact if_pos hp
theorem ans_ne {b : List Nat} {M : List Pl} (h : upk (VgV b).toNat (gL false b).2 [] = some M) (hp : packL M ≠ b) : ans b = none := by
  unfold ans; rw [h]; split
  · rfl
  · exact if_neg hp
theorem ans_good {b : List Nat} {M : List Pl} (h : ans b = some M) : Good M ∧ packL M = b := by
  unfold ans at h
  split at h
  · cases h
  · split at h
    · rename_i M' hu
      split at h
      · rename_i hp
        injection h with h
        subst h
        exact ⟨upk_good good_nil hu, hp⟩
      · cases h
    · cases h

theorem gL_len {bad : Bool} {l : List Nat} : (gL bad l).2.length ≤ l.length := by
  unfold gL; split
  · simp
  · exact Nat.le_refl _
theorem gL_mem {bad : Bool} {l : List Nat} {x : Nat} (h : x ∈ (gL bad l).2) : x ∈ l := by
  unfold gL at h; split at h
  · exact List.mem_of_mem_drop h
  · exact h
theorem gL_lt {bad : Bool} {l : List Nat} (hl : ∀ x ∈ l, x < 256) (h : (gL bad l).1 = false) : (gL bad l).2.length < l.length := by
  unfold gL at h ⊢
  split at h
  · rename_i u k hv
    obtain ⟨_, hk, hkl, _⟩ := vget_back hl hv
    have := (vput_len u).1
    rw [List.length_drop]
    omega
  · cases h
theorem gL_bad {bad : Bool} {l : List Nat} (h : (gL bad l).1 = false) : bad = false := by
  unfold gL at h; split at h
  · exact h
  · cases h
theorem rd_lt {l : List Nat} (hl : ∀ x ∈ l, x < 256) (h : (rdS l).1 = false) : (rdS l).2.length < l.length := by
  unfold rdS at h ⊢
  split at h
  · cases h
  · rename_i hb
    rw [if_neg hb]
    have h5 : (gL (rdS4 l).1 (rdS4 l).2).1 = false := h
    have h4 : (gL (rdS3 l).1 (rdS3 l).2).1 = false := gL_bad h5
    have h3 : (gL (gL false l).1 (rdL2 l)).1 = false := gL_bad h4
    have h1 : (gL false l).1 = false := gL_bad h3
    have := gL_lt hl h1
    have l2 : (rdL2 l).length ≤ (gL false l).2.length := by unfold rdL2; rw [List.length_drop]; omega
    have l3 : (rdS3 l).2.length ≤ (rdL2 l).length := gL_len
    have l4 : (rdS4 l).2.length ≤ (rdS3 l).2.length := gL_len
    have l5 : (rdS5 l).2.length ≤ (rdS4 l).2.length := gL_len
    omega
theorem strN_size (l : List Nat) : (strN l).size = l.length := by
  unfold strN strOfNums ByteArray.size
  simp
theorem rd_name (l : List Nat) : (rdP l).n.size ≤ l.length := by
  unfold rdP
  split
  · exact Nat.zero_le _
  · show (rdN l).size ≤ _
    unfold rdN
    rw [strN_size, List.length_take]
    have := gL_len (bad := false) (l := l)
    omega

set_option maxRecDepth 100000 in
set_option maxHeartbeats 1000000 in
theorem equal31 (A A' : Option Addr) (n c n' c' B B' : Nat) (l l' : List Nat) (w : World) (h : Rd w B A n (l.map bv)) (h' : Rd w B' A' n' (l'.map bv)) (hl : ∀ x ∈ l, x < 256) (hl' : ∀ x ∈ l', x < 256) :
    Calls Try.prog 31 #[.slice A n c, .slice A' n' c'] w fun e w' => e = .returned (.bool (decide (l = l'))) ∧ w' = w := by
  have h1 := conv_rd (c := c) h
  have h2 := conv_rd (c := c') h'
  by_cases he : l = l'
  · have hd : decide (l = l') = true := decide_eq_true he
    rw [← he] at h2
    rw [hd]
    clear hd h h' hl hl' he
    go_enter Try.func31, Try.ntmps31
    go_wp2_with fail
    go_ret
    exact ⟨by simp, rfl⟩
  · have hd : decide (l = l') = false := decide_eq_false he
    have hb := strN_beq hl hl' he
    rw [hd]
    clear hd h h' hl hl' he
    go_enter Try.func31, Try.ntmps31
    go_wp2_with fail
    go_ret
    exact ⟨by simp, rfl⟩
end Go.Proofs.Ytghklmhmhekjgaa
