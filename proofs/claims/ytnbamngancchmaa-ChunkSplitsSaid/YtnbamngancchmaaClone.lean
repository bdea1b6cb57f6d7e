/- What slices.Clone of bytes and bits.Writer.Bytes answer: the same bytes in new memory. Conditions: at most 10^9 bytes, 10^6 bits. -/
import Derived.Test.YtnbamngancchmaaSput
import Derived.WalkSpells
import Derived.Maps.AppendAt
namespace Go.Proofs.Ytnbamngancchmaa
open Go.RowKit PB PS

theorem Rd.news {w : World} {B n : Nat} {ad : Addr} {xs : List Value} (h : Rd w B (some ad) n xs) : ∀ j u, xs[j]? = some u → w.cell? (ad.add j) = some u := by
  intro j u hu
  have hl : j < xs.length := (List.getElem?_eq_some_iff.1 hu).1
  obtain ⟨b, off, e, _, hc⟩ := h.2 (by rw [← h.1]; omega)
  injection e with e
  subst e
  have := hc j u hu
  have e2 : (⟨b, off, none⟩ : Addr).add j = ⟨b, off + j, none⟩ := by unfold Addr.add; split <;> simp_all
  rw [e2]; exact this

set_option maxRecDepth 100000 in
set_option maxHeartbeats 1000000 in
theorem clone_any (A : Option Addr) (n c B : Nat) (xs : List Value) (w : World) (hr : Rd w B A n xs) (hB : B ≤ w.heap.size) (h1 : ∀ u ∈ xs, u.oneCell' = true) (hn : n ≤ 1000000000) :
    Calls Try.prog 67 #[.slice A n c] w fun e w' => ∃ v, e = .returned v ∧ w'.ownsRow w.heap.size 5 1 v n xs ∧ Below w.heap.size w w' := by
  obtain ⟨i0, hi, hz0, hz1, hz2⟩ := info_parts Try.info5
  rcases A with _ | ad
  · have hn0 : n = 0 := by
      rcases Nat.eq_zero_or_pos n with h | h
      · exact h
      · obtain ⟨_, _, e, _⟩ := hr.2 h; cases e
    subst hn0
    have hx : xs = [] := List.eq_nil_of_length_eq_zero hr.1
    subst hx
    have hq := fun W => Lib.run_eql_slice_nil (P := Try.prog) W 24 5 none 0 c 0 0 Try.underlying24
    go_enter Try.func67, Try.ntmps67
    go_wp2_with fail
    go_ret
    exact ⟨_, rfl, World.ownsRow_nil _ _ _ _, Below.refl _ _⟩
  · have hnews : ∀ j u, xs[j]? = some u → (w.alloc (.cells #[] 5)).cell? (ad.add j) = some u := Rd.news (hr.keep fun x hx => Below.heap_alloc w _ x (by omega))
    have hown := World.ownsRow_made (base := w.heap.size) (size := 1) w #[] 0 (e := 5) (Nat.le_refl _) (by unfold maxLen; omega) (by simp)
    have hlen := hr.1
    have HH : Hid ((∀ j u, xs[j]? = some u → (w.alloc (.cells #[] 5)).cell? (ad.add j) = some u) ∧ xs.length = n) := ⟨hnews, hlen⟩
    clear hnews hlen
    have hq := fun W => Lib.run_eql_slice_nil (P := Try.prog) W 24 5 (some ad) n c 0 0 Try.underlying24
    go_enter Try.func67, Try.ntmps67
    go_wp2_with (at_builtin; refine wpList_append_own_at _ rfl (.tmp 5) (.tmp 6) 24 rfl w.heap.size 5 i0 (.int .u8 0) 1 1 Try.underlying24 hi hz0 hz1 hz2 rfl (by decide) _ 0 [] rfl hown ad n c xs rfl (by rw [HH.out.2, Nat.mul_one]) HH.out.1 h1 (by unfold maxLen; omega) (by omega) (by simp) ?_; intro v1 w1 hown1 hg1 _ hat1)
    go_ret
    rw [Nat.zero_add, List.nil_append] at hown1
    refine ⟨v1, rfl, hown1, ((Below.refl _ _).alloc (Nat.le_refl _) _).grown hg1 (by simp) (fun k hk => ?_)⟩
    have hk2 : w.heap.size = k := by injection hk
    omega

theorem bytes_any (base g t o : Nat) (cs : Array Value) (sv : Value) (C : List Bool) (w : World) (hw : Wr w base g t o cs sv C) (hl : C.length ≤ 1000000) :
    Calls Try.prog 39 #[.pointer (some ⟨g, o, none⟩)] w fun e w' => ∃ v, e = .returned v ∧ w'.ownsRow w.heap.size 5 1 v (bytesOf C).length ((bytesOf C).map bv) ∧ Below w.heap.size w w' := by
  have h0 := hw.arr.at_ hw.hv
  obtain ⟨A, c, rfl, hr, _⟩ := Rd.of_own hw.own
  have hlen := bytesOf_length C
  have hcl := clone_any A (bytesOf C).length c w.heap.size ((bytesOf C).map bv) w hr (Nat.le_refl _) (by intro u hu; simp only [List.mem_map] at hu; obtain ⟨x, _, rfl⟩ := hu; rfl) (by omega)
  clear hlen
  go_enter Try.func39, Try.ntmps39
  go_wp2_with fail
  refine hcl.mono ?_
  rintro e w1 ⟨v, rfl, hown, hb⟩
  go_wp2_with fail
  go_ret
  exact ⟨v, rfl, hown, hb⟩
end Go.Proofs.Ytnbamngancchmaa
