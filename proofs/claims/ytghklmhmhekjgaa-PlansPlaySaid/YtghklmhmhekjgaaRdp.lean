/- A plan's reading, by the places where its parts stand. No conditions. -/
import Derived.Test.YtghklmhmhekjgaaUpk
namespace Go.Proofs.Ytghklmhmhekjgaa
open Go.RowKit PC

/-- How many bytes a number takes; none: 0. -/
def gK (l : List Nat) : Nat := (VgK l).toNat
theorem gK_cast (l : List Nat) : VgK l = (gK l : Int) := by
  unfold gK VgK
  split <;> omega
theorem gK_le {l : List Nat} (hl : ∀ x ∈ l, x < 256) : gK l ≤ l.length := by
  unfold gK VgK
  split
  · rename_i u k hv
    obtain ⟨_, _, h, _⟩ := vget_back hl hv
    omega
  · omega
theorem VgE_two (l : List Nat) : VgE l = 0 ∨ VgE l = 5 := by unfold VgE; split <;> simp
theorem gL_snd (bad : Bool) (l : List Nat) : (gL bad l).2 = l.drop (gK l) := by
  unfold gL gK VgK
  cases vget l <;> simp
theorem gL_fst (bad : Bool) (l : List Nat) : (gL bad l).1 = (bad || decide (VgE l = 5)) := by
  unfold gL VgE
  cases vget l <;> simp
theorem rnd_e1 {l : List Nat} {M : List Pl} (h : VgE l = 5) : ¬ rndB l M := by
  rintro ⟨h1, _⟩
  have hg : (gL false l).1 = true := by rw [gL_fst, decide_eq_true h]; rfl
  unfold rdS at h1
  split at h1
  · cases h1
  · have h5 : (gL (rdS4 l).1 (rdS4 l).2).1 = false := h1
    have h4 : (gL (rdS3 l).1 (rdS3 l).2).1 = false := gL_bad h5
    have h3 : (gL (gL false l).1 (rdL2 l)).1 = false := gL_bad h4
    have := gL_bad h3
    rw [hg] at this; cases this
theorem rnd_bad {l : List Nat} {M : List Pl} (h : rdBad l) : ¬ rndB l M := by
  rintro ⟨h1, _⟩
  unfold rdS at h1
  rw [if_pos h] at h1
  cases h1
theorem rnd_neg {l : List Nat} {M : List Pl} (h : VgV l < 0) : ¬ rndB l M := rnd_bad (.inl h)
theorem rnd_past {l : List Nat} {M : List Pl} (h : ((l.length - gK l : Nat) : Int) < VgV l) : ¬ rndB l M := rnd_bad (.inr (by rw [gL_snd, List.length_drop]; exact h))
theorem rnd_long {l : List Nat} {M : List Pl} (h : 64 < VgV l) : ¬ rndB l M := by
  by_cases hb : rdBad l
  · exact rnd_bad hb
  · rintro ⟨_, h2⟩
    unfold rdBad at hb
    have hs : (rdP l).n.size = (VgV l).toNat := by
      unfold rdP
      rw [if_neg (by unfold rdBad; exact hb)]
      show (rdN l).size = _
      unfold rdN
      rw [strN_size, List.length_take]
      omega
    unfold putE at h2
    split at h2
    · rename_i hok
      have := hok.2.2.1
      omega
    · cases h2
/-- The parts. -/
theorem rd_good {l l2 l3 l4 l5 : List Nat} {k : Nat} (hE : VgE l = 0) (hV : VgV l = k) (hk : k ≤ l.length - gK l) (h2 : l2 = l.drop (gK l + k)) (h3 : l3 = l2.drop (gK l2)) (h4 : l4 = l3.drop (gK l3)) (h5 : l5 = l4.drop (gK l4)) :
    rdP l = ⟨strN ((l.drop (gK l)).take k), SgV l2, SgV l3, VgV l4⟩ ∧ rdS l = (decide (VgE l2 = 5) || decide (VgE l3 = 5) || decide (VgE l4 = 5), l5) := by
  have hb : ¬ rdBad l := by
    unfold rdBad
    rw [gL_snd, List.length_drop, hV]
    omega
  have e1 : (gL false l).1 = false := by rw [gL_fst, hE]; rfl
  have e2 : rdL2 l = l2 := by rw [rdL2, gL_snd, hV, h2, List.drop_drop]; rfl
  have e3 : rdS3 l = (decide (VgE l2 = 5), l3) := by
    have a := gL_fst (gL false l).1 (rdL2 l)
    have b := gL_snd (gL false l).1 (rdL2 l)
    rw [e1, e2] at a b
    rw [rdS3, e1, e2]
    exact Prod.ext (by rw [a]; rfl) (by rw [b, h3])
  have e4 : rdS4 l = (decide (VgE l2 = 5) || decide (VgE l3 = 5), l4) := by
    rw [rdS4, e3]
    exact Prod.ext (gL_fst _ _) (by rw [gL_snd, h4])
  have e5 : rdS5 l = (decide (VgE l2 = 5) || decide (VgE l3 = 5) || decide (VgE l4 = 5), l5) := by
    rw [rdS5, e4]
    exact Prod.ext (gL_fst _ _) (by rw [gL_snd, h5])
  unfold rdP rdS
  rw [if_neg hb, if_neg hb, e2, e3, e4, e5]
  refine ⟨?_, rfl⟩
  have : rdN l = strN ((l.drop (gK l)).take k) := by rw [rdN, gL_snd, hV]; rfl
  rw [this]
end Go.Proofs.Ytghklmhmhekjgaa
