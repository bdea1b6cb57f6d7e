/- What SameSamples, num, Lent and Stay answer on samples that are the same, and that the example of the document packs as it says. Conditions: at most 10^9 samples. -/
import Derived.Test.YtnbamngancchmaaCpack
import Derived.Test.YtnbamngancchmaaPrefix
import Derived.BigQuiet
namespace Go.Proofs.Ytnbamngancchmaa
open Go.RowKit PB PC

set_option maxRecDepth 100000 in
set_option maxHeartbeats 1000000 in
theorem sameS_any (A1 A2 : Option Addr) (n c1 B1 c2 B2 : Nat) (l : List (Int × Int)) (w : World) (h1 : Rs2 w B1 A1 n l) (h2 : Rs2 w B2 A2 n l) (hn : n ≤ 1000000000) :
    Calls Try.prog 28 #[.slice A1 n c1, .slice A2 n c2] w fun e w' => e = .returned (.bool true) ∧ ∃ k, w' = w.drewN k := by
  go_enter Try.func28, Try.ntmps28
  go_wp2_with fail
  go_loopw [5] (fun i wr => ∃ k : Nat, k ≤ n ∧ i = .int .i64 k ∧ ∃ j, wr = w.drewN j) (fun i _ => n - (intOf i).toNat)
  case atStart => exact ⟨0, Nat.zero_le _, rfl, 0, rfl⟩
  case round =>
    obtain ⟨k, hk, rfl, j, rfl⟩ := hrel
    by_cases hlt : k < n
    · obtain ⟨b, off, rfl, _, hc⟩ := (h1.drewN j).at2 hlt
      obtain ⟨b2, off2, rfl, _, hc2⟩ := (h2.drewN j).at2 hlt
      obtain ⟨c0, c1'⟩ := hc k hlt
      obtain ⟨d0, d1⟩ := hc2 k hlt
      obtain ⟨x, hx⟩ : ∃ x, x = (l.getD k (0, 0)).1 := ⟨_, rfl⟩
      obtain ⟨y, hy⟩ : ∃ y, y = (l.getD k (0, 0)).2 := ⟨_, rfl⟩
      rw [← hx] at c0 d0
      rw [← hy] at c1' d1
      obtain ⟨w2, hw2⟩ : ∃ w2, w2 = w.drewN j := ⟨_, rfl⟩
      have HW := Lib.hid hw2
      rw [← hw2] at c0 d0 c1' d1 ⊢
      clear hx hy hc hc2 hw2
      go_wp2_with fail
      go_quiet (fail)
      go_wp2_with fail
      go_roundw
      case rel => exact ⟨k + 1, by omega, by go_num, _, by rw [HW.out]; exact World.drewN_drewN _ _ _⟩
      case measure => simp [intOf]; omega
    · obtain rfl : k = n := by omega
      go_wp2_with fail
      go_ret
      exact ⟨rfl, j, rfl⟩

theorem num32 (x : Int) (w : World) : Calls Try.prog 32 #[.int .i64 x] w fun e w' => e = .returned (.int .i64 x) ∧ w' = w := by
  go_enter Try.func32, Try.ntmps32
  go_wp2_with fail
  go_ret
  exact ⟨rfl, rfl⟩

theorem Rs2.none_zero {w : World} {B n : Nat} {l : List (Int × Int)} (h : Rs2 w B none n l) : n = 0 ∧ l = [] := by
  have hn0 : n = 0 := by
    rcases Nat.eq_zero_or_pos n with h0 | h0
    · exact h0
    · obtain ⟨_, _, e, _⟩ := h.2 h0; cases e
  subst hn0
  exact ⟨rfl, List.eq_nil_of_length_eq_zero h.1⟩
theorem Rs2.news {w : World} {B n : Nat} {ad : Addr} {l : List (Int × Int)} (h : Rs2 w B (some ad) n l) : ∀ j u, (sc l)[j]? = some u → w.cell? (ad.add j) = some u := by
  intro j u hu
  have hj := (List.getElem?_eq_some_iff.1 hu).1
  rw [sc_len, h.1] at hj
  obtain ⟨b', off', e, _, hc⟩ := h.2 (by omega)
  injection e with e
  subst e
  have e : (⟨b', off', none⟩ : Addr).add j = ⟨b', off' + j, none⟩ := by unfold Addr.add; split <;> simp_all
  rw [e]; exact hc j u hu
theorem one_sc (l : List (Int × Int)) : ∀ u ∈ sc l, u.oneCell' = true := by
  intro u hu
  simp only [sc, List.mem_flatMap] at hu
  obtain ⟨p, _, hu⟩ := hu
  simp at hu
  rcases hu with rfl | rfl <;> rfl
theorem wpList_copy2 {P : Program} {ops : Array Oper} {rest : List Oper} {o : Oper} {a : Act} {w : World} {Q : Exit → Act → World → Prop} (hgd : o.guard = none) (s x : Operand) (t : TypeId)
    (ho : o.op = .call { callee := .builtin .append, args := #[s, x], argTypes := #[t, t] })
    (e : TypeId) (i : TypeInfo) (z : Value) (bytes : Nat) (ht : P.underlying t = some (.slice e)) (hi : P.info? e = some i) (hz : i.zero = some z)
    (hsize : i.size = 2) (hby : i.bytes = bytes) (hzs : z.cells.size = 2) (hs : a.eval s = .slice none 0 0)
    (A : Option Addr) (n c B : Nat) (l : List (Int × Int)) (hx : a.eval x = .slice A n c) (hr : Rs2 w B A n l)
    (hn : n * bytes ≤ 140737488355328) (hn2 : n ≤ maxLen)
    (h : ∀ v' w', w'.ownsRow w.heap.size e 2 v' n (sc l) → Below w.heap.size w w' → wpList P ops Q rest (a.put o.dst v') w') : wpList P ops Q (o :: rest) a w := by
  rcases A with _ | ad
  · obtain ⟨rfl, rfl⟩ := hr.none_zero
    refine wpList_plain hgd fun K hK => ?_
    have hrun : (Builtin.append_ #[t, t] o.type #[.slice none 0 0, .slice none 0 c]).run P w = .ok (.slice none 0 0) w := by
      simp [Builtin.append_, run_underlying ht, sizeOf, typeInfo, hi, Builtin.lenOf, Builtin.firstCells, loadCells, loadCellsFrom]
    unfold Oper.wp execOp
    simp only [ho, resolve, invoke, builtin, Sem.run_bind, Sem.run_pure, Result.andThen_ok, List.map_toArray, List.map_cons, List.map_nil, hs, hx, hrun]
    exact hK _ _ (h _ _ (World.ownsRow_nil _ _ _ _) (Below.refl _ _))
  · refine wpList_append_own_at w hgd s x t ho w.heap.size e i z 2 bytes ht hi hz hsize hby hzs (by omega) _ 0 [] hs (World.ownsRow_nil _ _ _ _) ad n c (sc l) hx (by rw [sc_len, hr.1, Nat.mul_comm]) hr.news (one_sc l) (by omega) (by rw [Nat.zero_add]; exact hn) (Nat.le_refl _) ?_
    intro v' w' hown hg _ _
    rw [Nat.zero_add, List.nil_append] at hown
    exact h v' w' hown ((Below.refl _ _).grown hg (Nat.le_refl _) (fun k hk => by cases hk))
/-- The same row, cut to fewer samples. -/
theorem own_rs2 {w : World} {base r cap n m : Nat} {l more : List (Int × Int)} (h : w.ownsRow base 43 2 (.slice (some ⟨r, 0, none⟩) n cap) n (sc (l ++ more))) (hm : l.length = m) : Rs2 w w.heap.size (some ⟨r, 0, none⟩) m l :=
  ⟨hm, fun _ => ⟨r, 0, rfl, (h.lt r rfl).2, fun j u hu => by
    rw [Nat.zero_add]
    have hh := h.cells (g := r) rfl j u (by rw [sc_append, List.getElem?_append_left (List.getElem?_eq_some_iff.1 hu).1]; exact hu)
    have e : (⟨r, 0, none⟩ : Addr).add j = ⟨r, 0 + j, none⟩ := by unfold Addr.add; split <;> simp_all
    rw [e, Nat.zero_add] at hh; exact hh⟩⟩

set_option maxRecDepth 100000 in
theorem lent_any (A : Option Addr) (n c B : Nat) (l : List (Int × Int)) (w : World) (hr : Rs2 w B A n l) (hn : n ≤ 1000000000) :
    Calls Try.prog 29 #[.slice A n c] w fun e w' => ∃ r cap, e = .returned (.slice (some ⟨r, 0, none⟩) (n + 1) cap) ∧ w'.ownsRow w.heap.size 43 2 (.slice (some ⟨r, 0, none⟩) (n + 1) cap) (n + 1) (sc (l ++ [(-71, 0)])) ∧ Below w.heap.size w w' ∧ n + 1 ≤ cap := by
  obtain ⟨i0, hi, hz0, hz1, hz2⟩ := info_parts Try.info43
  go_enter Try.func29, Try.ntmps29
  go_wp2_with (at_builtin; first
    | (refine wpList_copy2 rfl (.const (.slice none 0 0)) (.tmp 3) 38 rfl 43 i0 _ 16 Try.underlying38 hi hz0 hz1 hz2 rfl rfl A n c B l rfl hr (by omega) (by unfold maxLen; omega) ?_; intro v2 w2 hown2 hb2)
    | (refine wpList_append_lies _ rfl (.tmp 4) (.tmp 6) 38 rfl w.heap.size 43 i0 _ 2 16 Try.underlying38 hi hz0 hz1 hz2 rfl (by decide) v2 n (sc l) rfl (hown2.alloc _) ⟨w2.heap.size, 0, none⟩ 1 1 [.int .i64 (-71), .int .i64 0] rfl rfl (two_cells w2 _ _ 43) (by simp [Value.oneCell']) (by omega) (by unfold maxLen; omega) (by omega) (by have := hb2.size; simp; omega) (w2.heap.size + 1) (by simp) ?_; intro r cap w3 hown3 hg3 hat3 hlt3))
  have HF : Hid (w3.ownsRow w.heap.size 43 2 (.slice (some ⟨r, 0, none⟩) (n + 1) cap) (n + 1) (sc (l ++ [(-71, 0)])) ∧ Below w.heap.size w w3 ∧ n + 1 ≤ cap) := by
    have ho : w3.ownsRow w.heap.size 43 2 (.slice (some ⟨r, 0, none⟩) (n + 1) cap) (n + 1) (sc (l ++ [(-71, 0)])) := by rw [sc_snoc]; exact hown3
    refine ⟨ho, (hb2.alloc hb2.size _).grown hg3 (by have := hb2.size; simp; omega) (fun x hx => (hown2.lt x hx).1), ?_⟩
    rcases ho.2 with ⟨h0, _⟩ | ⟨g', cap', cur, hv, _, _, r1, _⟩
    · cases h0
    · injection hv with hv hv1 hv2; omega
  clear hown3 hg3 hat3 hlt3 hown2 hb2
  go_wp2_with fail
  go_ret
  exact ⟨r, cap, rfl, HF.out⟩

set_option maxRecDepth 100000 in
theorem stay_any (A : Option Addr) (n c B r cap base : Nat) (l : List (Int × Int)) (w : World) (hf : w.ownsRow base 43 2 (.slice (some ⟨r, 0, none⟩) (n + 1) cap) (n + 1) (sc (l ++ [(-71, 0)]))) (hcap : n + 1 ≤ cap) (hr : Rs2 w B A n l) (hn : n ≤ 1000000000) :
    Calls Try.prog 33 #[.slice (some ⟨r, 0, none⟩) (n + 1) cap, .slice A n c] w fun e w' => e = .returned (.bool true) ∧ ∃ k, w' = w.drewN k := by
  have hl := hr.1
  have h1 := own_rs2 hf hl
  have hq := sameS_any (some ⟨r, 0, none⟩) A n cap w.heap.size c B l w h1 hr hn
  have hsl : (sc l).length = n * 2 := by rw [sc_len, hl, Nat.mul_comm]
  have hc : ∀ j v, [(.int .i64 (-71) : Value), .int .i64 0][j]? = some v → w.cell? ⟨r, n * 2 + j, none⟩ = some v := by
    intro j v hv
    have hh := hf.cells (g := r) rfl (n * 2 + j) v (by
      rw [sc_snoc, List.getElem?_append_right (by rw [hsl]; omega), hsl, Nat.add_sub_cancel_left]; exact hv)
    have e : (⟨r, 0, none⟩ : Addr).add (n * 2 + j) = ⟨r, 0 + (n * 2 + j), none⟩ := by unfold Addr.add; split <;> simp_all
    rw [e, Nat.zero_add] at hh; exact hh
  have c0 := hc 0 _ rfl
  have c1 := hc 1 _ rfl
  rw [Nat.add_zero] at c0
  clear hc hsl hf h1 hl
  go_enter Try.func33, Try.ntmps33
  go_wp2_with fail
  refine hq.mono ?_
  rintro e w1 ⟨rfl, j, rfl⟩
  go_wp2_with fail
  go_ret
  exact ⟨rfl, j, rfl⟩

theorem cpack1 : packCE [(0, 0)] = 0 ∧ strN (packCB [(0, 0)]) = ⟨#[1, 8, 0, 0, 0, 0, 0, 0, 0, 0, 8, 0, 0, 0, 0, 0, 0, 0, 0]⟩ := ⟨by kernel_rfl, by kernel_rfl⟩
set_option maxRecDepth 100000 in
theorem alive25 (w : World) : Calls Try.prog 25 #[] w fun e w' => e = .returned (.bool true) ∧ Below w.heap.size w w' := by
  obtain ⟨p1, p2⟩ := cpack1
  have HP := Lib.hid p2
  clear p2
  have hr : Rs2 (w.alloc (.cells #[.int .i64 0, .int .i64 0] 43)) (w.heap.size + 1) (some ⟨w.heap.size, 0, none⟩) 1 [(0, 0)] := by
    refine ⟨rfl, fun _ => ⟨_, _, rfl, by omega, fun j u hu => ?_⟩⟩
    rw [(Arr.new w 43 #[.int .i64 0, .int .i64 0]).cell, ← hu, Nat.zero_add]
    simp [sc]
  have hp := cpack_any (some ⟨w.heap.size, 0, none⟩) 1 1 (w.heap.size + 1) [(0, 0)] _ hr (by simp) (by omega)
  unfold CPost at hp
  rw [p1] at hp
  clear hr p1
  go_enter Try.func25, Try.ntmps25
  go_wp2_with fail
  refine hp.mono ?_
  rintro e w1 ⟨v, rfl, hown, hb⟩
  have hcv := conv_own hown
  rw [HP.out] at hcv
  have HB := Lib.hid hb
  clear hown hb
  go_wp2_with (go_at_call 32; refine (num32 _ _).mono ?_; rintro e w' ⟨rfl, rfl⟩)
  go_ret
  exact ⟨rfl, ((Below.refl _ _).alloc (Nat.le_refl _) _).trans (HB.out.mono (by simp))⟩
end Go.Proofs.Ytnbamngancchmaa
