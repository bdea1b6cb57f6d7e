/- What slices.Clone of samples answers: the same samples in new memory. Conditions: at most 10^9 samples. -/
import Derived.Test.YtnbamngancchmaaSames
namespace Go.Proofs.Ytnbamngancchmaa
open Go.RowKit PB

set_option maxRecDepth 100000 in
set_option maxHeartbeats 1000000 in
theorem clone2_any (A : Option Addr) (n c B : Nat) (l : List (Int × Int)) (w : World) (hr : Rs2 w B A n l) (hB : B ≤ w.heap.size) (hn : n ≤ 1000000000) :
    Calls Try.prog 55 #[.slice A n c] w fun e w' => ∃ v, e = .returned v ∧ w'.ownsRow w.heap.size 43 2 v n (sc l) ∧ Below w.heap.size w w' := by
  obtain ⟨i0, hi, hz0, hz1, hz2⟩ := info_parts Try.info43
  rcases A with _ | ad
  · obtain ⟨rfl, rfl⟩ := hr.none_zero
    have hq := fun W => Lib.run_eql_slice_nil (P := Try.prog) W 38 43 none 0 c 0 0 Try.underlying38
    go_enter Try.func55, Try.ntmps55
    go_wp2_with fail
    go_ret
    exact ⟨_, rfl, World.ownsRow_nil _ _ _ _, Below.refl _ _⟩
  · have hnews : ∀ j u, (sc l)[j]? = some u → (w.alloc (.cells #[] 43)).cell? (ad.add j) = some u := Rs2.news (hr.keep fun x hx => Below.heap_alloc w _ x (by omega))
    have hown := World.ownsRow_made (base := w.heap.size) (size := 2) w #[] 0 (e := 43) (Nat.le_refl _) (by unfold maxLen; omega) (by simp)
    have hlen := hr.1
    have HH : Hid ((∀ j u, (sc l)[j]? = some u → (w.alloc (.cells #[] 43)).cell? (ad.add j) = some u) ∧ (sc l).length = n * 2) := ⟨hnews, by rw [sc_len, hlen, Nat.mul_comm]⟩
    have hone := Lib.hid (one_sc l)
    clear hnews hlen hr
    have hq := fun W => Lib.run_eql_slice_nil (P := Try.prog) W 38 43 (some ad) n c 0 0 Try.underlying38
    go_enter Try.func55, Try.ntmps55
    go_wp2_with (at_builtin; refine wpList_append_own_at _ rfl (.tmp 5) (.tmp 6) 38 rfl w.heap.size 43 i0 _ 2 16 Try.underlying38 hi hz0 hz1 hz2 rfl (by decide) _ 0 [] rfl hown ad n c (sc l) rfl HH.out.2 HH.out.1 hone.out (by unfold maxLen; omega) (by omega) (by simp) ?_; intro v1 w1 hown1 hg1 _ hat1)
    go_ret
    rw [Nat.zero_add, List.nil_append] at hown1
    refine ⟨v1, rfl, hown1, ((Below.refl _ _).alloc (Nat.le_refl _) _).grown hg1 (by simp) (fun k hk => ?_)⟩
    have hk2 : w.heap.size = k := by injection hk
    omega
end Go.Proofs.Ytnbamngancchmaa
