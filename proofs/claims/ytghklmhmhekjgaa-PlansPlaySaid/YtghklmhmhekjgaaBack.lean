/- The bytes of plans are these plans, plainly. Conditions: at most 100 plans that may be, by rising names. -/
import Derived.Test.YtghklmhmhekjgaaUpk
import Derived.Test.YtghklmhmhekjgaaAps
namespace Go.Proofs.Ytghklmhmhekjgaa
open Go.RowKit PC

theorem gL_put {u : Nat} (hu : u < 18446744073709551616) (bad : Bool) (r : List Nat) : gL bad (vput u ++ r) = (bad, r) := by
  unfold gL
  rw [vget_put hu]
  simp
theorem VgV_put {u : Nat} (hu : u < 9223372036854775808) (r : List Nat) : VgV (vput u ++ r) = (u : Int) := by
  unfold VgV
  rw [vget_put (by omega)]
  show wrap64 (u : Int) = _
  unfold wrap64; omega
theorem SgV_put {n : Int} (h : -9223372036854775808 ≤ n ∧ n < 9223372036854775808) (r : List Nat) : SgV (vput (zig n) ++ r) = n := by
  unfold SgV
  rw [vget_put (zig_lt h)]
  exact zag_zig n
theorem strN_nb (s : ByteArray) : strN (nb s) = s := by
  obtain ⟨⟨l⟩⟩ := s
  unfold strN strOfNums nb
  simp [Function.comp_def]
theorem rd_pk {p : Pl} (h : OkP p.n p.f p.t p.r) (r : List Nat) : rdP (pk1 p ++ r) = p ∧ rdS (pk1 p ++ r) = (false, r) := by
  obtain ⟨_, h1, h2, h3, h4, h5, h6, _, h7, h8⟩ := h
  have e0 : pk1 p ++ r = vput p.n.size ++ (nb p.n ++ (vput (zig p.f) ++ (vput (zig p.t) ++ (vput (PV.un p.r) ++ r)))) := by unfold pk1; simp [List.append_assoc]
  have hu : (PV.un p.r : Int) = p.r := by unfold PV.un; omega
  have hu2 : PV.un p.r < 9223372036854775808 := by omega
  have hV := VgV_put (u := p.n.size) (by omega) (nb p.n ++ (vput (zig p.f) ++ (vput (zig p.t) ++ (vput (PV.un p.r) ++ r))))
  have hG := gL_put (u := p.n.size) (by omega) false (nb p.n ++ (vput (zig p.f) ++ (vput (zig p.t) ++ (vput (PV.un p.r) ++ r))))
  rw [← e0] at hV hG
  have hL2 : rdL2 (pk1 p ++ r) = vput (zig p.f) ++ (vput (zig p.t) ++ (vput (PV.un p.r) ++ r)) := by
    unfold rdL2
    rw [hG, hV, Int.toNat_natCast]
    exact List.drop_left' (nb_len p.n)
  have hN : rdN (pk1 p ++ r) = p.n := by
    unfold rdN
    rw [hG, hV, Int.toNat_natCast]
    show strN (List.take p.n.size (nb p.n ++ _)) = _
    rw [List.take_left' (nb_len p.n), strN_nb]
  have hb : ¬ rdBad (pk1 p ++ r) := by
    unfold rdBad
    rw [hV, hG]
    show ¬ ((p.n.size : Int) < 0 ∨ (((nb p.n ++ _).length : Nat) : Int) < _)
    rw [List.length_append, nb_len]
    omega
  have h3' : rdS3 (pk1 p ++ r) = (false, vput (zig p.t) ++ (vput (PV.un p.r) ++ r)) := by
    unfold rdS3; rw [hL2, hG]; exact gL_put (zig_lt (by omega)) _ _
  have h4' : rdS4 (pk1 p ++ r) = (false, vput (PV.un p.r) ++ r) := by
    unfold rdS4; rw [h3']; exact gL_put (zig_lt (by omega)) _ _
  have h5' : rdS5 (pk1 p ++ r) = (false, r) := by
    unfold rdS5; rw [h4']; exact gL_put (by omega) _ _
  constructor
  · unfold rdP
    rw [if_neg hb, hN, hL2, h3', h4', SgV_put (by omega)]
    show (⟨p.n, p.f, SgV (vput (zig p.t) ++ _), VgV (vput (PV.un p.r) ++ r)⟩ : Pl) = p
    rw [SgV_put (by omega), VgV_put hu2, hu]
  · unfold rdS
    rw [if_neg hb, h5']
theorem upk_back : ∀ (post pre : List Pl), Good (pre ++ post) → upk post.length (post.flatMap pk1) pre = some (pre ++ post)
  | [], pre, _ => by simp [upk]
  | p :: post, pre, h => by
    have hp := h.ok p (by simp)
    obtain ⟨h1, h2⟩ := rd_pk hp (post.flatMap pk1)
    have hris := h.ris
    unfold Ris at hris
    rw [List.pairwise_append] at hris
    have hlt : ∀ q ∈ pre, bytesBefore q.nm p.nm = true := fun q hq => hris.2.2 q hq p (List.mem_cons_self ..)
    obtain ⟨n1, n2⟩ := put_new (p := p) (A := pre) (B := []) hlt (by simp)
    rw [List.append_nil] at n1 n2
    have hl := h.len
    rw [List.length_append, List.length_cons] at hl
    have e1 : putE p pre = 0 := by unfold putE; rw [if_pos hp, if_neg (fun h => by omega)]
    have e2 : putL p pre = pre ++ [p] := by unfold putL; rw [if_pos hp, if_neg (fun h => by omega), n2]
    have hf : (p :: post).flatMap pk1 = pk1 p ++ post.flatMap pk1 := by simp
    have hr : rndB ((p :: post).flatMap pk1) pre := by unfold rndB; rw [hf, h1, h2]; exact ⟨rfl, e1⟩
    rw [List.length_cons, upk, if_pos hr, hf, h1, h2, e2]
    have := upk_back post (pre ++ [p]) (by rw [List.append_assoc]; exact h)
    rw [List.append_assoc] at this
    exact this
theorem ans_pack {M : List Pl} (h : Good M) : ans (packL M) = some M := by
  have hl := h.len
  have hg := gL_put (u := M.length) (by omega) false (M.flatMap pk1)
  have hv := VgV_put (u := M.length) (by omega) (M.flatMap pk1)
  refine ans_eq ?_ ?_ rfl
  · show (gL false (vput M.length ++ _)).1 = false
    rw [hg]
  · show upk (VgV (vput M.length ++ M.flatMap pk1)).toNat (gL false (vput M.length ++ M.flatMap pk1)).2 [] = some M
    rw [hg, hv, Int.toNat_natCast]
    exact upk_back M [] h
theorem packL_le {M : List Pl} (h : Good M) : (packL M).length ≤ 900000 := by
  have hl := h.len
  unfold packL
  rw [List.length_append]
  have h1 : ∀ L : List Pl, (∀ p ∈ L, OkP p.n p.f p.t p.r) → (L.flatMap pk1).length ≤ 150 * L.length := by
    intro L
    induction L with
    | nil => intro _; simp
    | cons a r ih =>
      intro h
      have ha := (h a (by simp)).2.2.1
      have := ih (fun p hp => h p (List.mem_cons_of_mem _ hp))
      have hk : (pk1 a).length ≤ 108 := by
        unfold pk1
        have h1 := (vput_len a.n.size).2
        have h2 := (vput_len (zig a.f)).2
        have h3 := (vput_len (zig a.t)).2
        have h4 := (vput_len (PV.un a.r)).2
        simp only [List.length_append, nb_len]
        omega
      rw [List.flatMap_cons, List.length_append, List.length_cons]
      omega
  have h2 := h1 M h.ok
  have h3 := (vput_len M.length).2
  omega
end Go.Proofs.Ytghklmhmhekjgaa
