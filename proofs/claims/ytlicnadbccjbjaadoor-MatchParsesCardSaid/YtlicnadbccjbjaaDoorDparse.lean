/- What labels.Parse answers. Conditions: texts of at most 10^6 bytes; the error that is told lies where it was laid. -/
import Derived.Test.YtlicnadbccjbjaaDoorDread
namespace Go.Proofs.YtlicnadbccjbjaaDoor
open Go.RowKit LB

theorem textM_ne (m : List Lab) : textM m ≠ [] := by unfold textM; simp
theorem good_text {m : List Lab} (h : Good m) : textL m = textM m := by unfold textL; rw [show mkL m = some m from h]
theorem text_good {l : List Lab} {S : List UInt8} (h : textL l = S) (hS : S ≠ []) : ∃ m, mkL l = some m ∧ Good m ∧ textM m = S := by
  unfold textL at h
  cases hm : mkL l with
  | none => rw [hm] at h; exact absurd h.symm hS
  | some m => rw [hm] at h; exact ⟨m, rfl, mkL_good hm, h⟩
/-- What Parse answers. -/
def PPost (w : World) (S : List UInt8) (e : Ending) (w' : World) : Prop :=
  Below w.heap.size w w' ∧ ((∃ (v : Value) (l : List Lab), e = .returned (.tuple #[v, .int .i64 0]) ∧ w'.ownsRow w.heap.size 37 2 v l.length (lv l) ∧ Good l ∧ textM l = S ∧ ∀ m, Good m → textM m = S → m = l) ∨
    (e = .returned (.tuple #[.slice none 0 0, .int .i64 4]) ∧ ∀ m, Good m → textM m ≠ S))

set_option maxRecDepth 100000 in
set_option maxHeartbeats 4000000 in
theorem parse12 (s : ByteArray) (ea : Addr) (w : World) (hs : s.size ≤ 1000000) (he : w.cell? ⟨0, 0, none⟩ = some (errV ea)) (h0 : 0 < w.heap.size) :
    Calls Tryd.prog 12 #[.string s] w (PPost w s.data.toList) := by
  have hrd := read30 s ea w hs he h0
  have HRD := Lib.hid hrd
  clear hrd
  by_cases hz : s.size = 0
  · have hS : s.data.toList = [] := List.eq_nil_of_length_eq_zero (by simpa using hz)
    have HE : Hid (∀ m, Good m → textM m ≠ s.data.toList) := by
      show ∀ m, Good m → textM m ≠ s.data.toList
      intro m _; rw [hS]; exact textM_ne m
    obtain rfl := (empty_iff s).1 hz
    clear hz hS
    go_enter Tryd.func12, Tryd.ntmps12
    go_wp2_with fail
    refine HRD.out.mono ?_
    rintro e w1 ⟨hb1, ⟨rfl, _⟩ | ⟨v, l, rfl, _⟩⟩
    · go_wp2_with fail
      go_ret2
      exact ⟨hb1, .inr ⟨rfl, HE.out⟩⟩
    · go_wp2_with fail
      go_ret2
      exact ⟨hb1, .inr ⟨rfl, HE.out⟩⟩
  · have hS : s.data.toList ≠ [] := by
      intro h
      have h1 : s.data.toList.length = 0 := by rw [h]; rfl
      have h2 : s.data.toList.length = s.size := by simp
      omega
    have hne := not_empty hz
    have HS := Lib.hid hS
    clear hz hS
    go_enter Tryd.func12, Tryd.ntmps12
    go_wp2_with fail
    refine HRD.out.mono ?_
    rintro e w1 ⟨hb1, ⟨rfl, hno⟩ | ⟨v, l, rfl, hown, hl6, hl⟩⟩
    · have HE := Lib.hid hno
      clear hno
      go_wp2_with fail
      go_ret2
      exact ⟨hb1, .inr ⟨rfl, HE.out⟩⟩
    · obtain ⟨A1, c1, rfl, hlv, hc1, hc2⟩ := Lv.of_own hown
      have hq := text_any A1 l.length c1 w1.heap.size l w1 hlv (Nat.le_refl _)
      have HL := Lib.hid (And.intro hl hown)
      obtain ⟨T, hT⟩ : ∃ T, T = textL l := ⟨_, rfl⟩
      obtain ⟨N, hN⟩ : ∃ N, N = l.length := ⟨_, rfl⟩
      rw [← hT, ← hN] at hq
      rw [← hN] at hc1 ⊢
      have HQ := Lib.hid hq
      have hst : s.toList = s.data.toList := ByteArray.toList_eq s
      by_cases heq : T = s.data.toList
      · have e1 : (T == s.toList) = true := by rw [hst, heq]; simp
        have hfin : Good l ∧ textM l = s.data.toList ∧ ∀ m, Good m → textM m = s.data.toList → m = l := by
          obtain ⟨m, _, hg, hm⟩ := text_good (hT.symm.trans heq) HS.out
          have := hl m hg hm
          subst this
          exact ⟨hg, hm, fun m' h1 h2 => (hl m' h1 h2).symm⟩
        have HF := Lib.hid hfin
        have HN := Lib.hid hN
        clear heq hfin hN hT hq hl hown hst hlv
        go_wp2_with fail
        refine HQ.out.mono ?_
        rintro e w2 ⟨rfl, hb2⟩
        go_wp2_with fail
        go_ret2
        exact ⟨hb1.trans (hb2.mono hb1.size), .inl ⟨_, l, rfl, by rw [← HN.out]; have h := HL.out.2; rw [← HN.out] at h; exact own_kp h (Kp.none_of_below (S := fun _ => False) hb2) (fun _ _ h => h), HF.out⟩⟩
      · have e1 : (T == s.toList) = false := by rw [hst, beq_eq_false_iff_ne]; exact heq
        have HE : Hid (∀ m, Good m → textM m ≠ s.data.toList) := by
          show ∀ m, Good m → textM m ≠ s.data.toList
          intro m hg hm
          have := hl m hg hm
          subst this
          exact heq (by rw [hT, good_text hg, hm])
        clear heq hN hT hq hl hown hst hlv
        go_wp2_with fail
        refine HQ.out.mono ?_
        rintro e w2 ⟨rfl, hb2⟩
        go_wp2_with fail
        go_ret2
        exact ⟨hb1.trans (hb2.mono hb1.size), .inr ⟨rfl, HE.out⟩⟩
end Go.Proofs.YtlicnadbccjbjaaDoor
