/- What stamps.put does: the writer has the bits of a difference behind its own. Conditions: the writer has fewer than a million bits, the difference is an int. -/
import Derived.Test.YtnbamngancchmaaCheck
import Derived.Deep.RegionHeld3
import Derived.Deep.WholeRow
namespace Go.Proofs.Ytnbamngancchmaa
open Go.RowKit PB PS

/-- A whole array stored into the block that was made last. -/
theorem wpList_store_new {P : Program} {ops : Array Oper} {rest : List Oper} {o : Oper} {a : Act} {w : World} {Q : Exit → Act → World → Prop} (hgd : o.guard = none) (ty : TypeId) (x y : Operand) (ho : o.op = .store ty x y)
    (H : Nat) (cells old : Array Value) (t : TypeId) (hx : a.eval x = .pointer (some ⟨H, 0, none⟩)) (hy : a.eval y = .agg cells) (hH : w.heap.size = H) (hi : (P.info? ty).map (·.size) = some cells.size)
    (hold : old.size = cells.size) (h1 : cells.all (·.oneCell') = true)
    (h : wpList P ops Q rest (a.put o.dst undef) (w.alloc (.cells cells t))) : wpList P ops Q (o :: rest) a (w.alloc (.cells old t)) := by
  subst hH
  refine wpList_store_row hgd ty x y ho w.heap.size cells hx hy t old (heap_alloc_new w _) hi hold h1 ?_
  rw [World.setRow_alloc_new]
  exact h

abbrev W20 : Array Value := #[.int .i64 0, .int .i64 0, .int .i64 0, .int .i64 0, .int .i64 1, .int .i64 7, .int .i64 (-63), .int .i64 64, .int .i64 2, .int .i64 9, .int .i64 (-255), .int .i64 256,
  .int .i64 3, .int .i64 12, .int .i64 (-2047), .int .i64 2048, .int .i64 4, .int .i64 64, .int .i64 0, .int .i64 0]
theorem Try.info112 : (Try.prog.info? 112).map (·.size) = some 20 := by kernel_rfl
theorem W20_size : W20.size = 20 := by kernel_rfl

set_option maxRecDepth 100000 in
theorem widths_any (w : World) : Calls Try.prog 66 #[] w fun e w' => e = .returned (.agg W20) ∧ w' = w.alloc (.cells W20 112) := by
  go_enter Try.func66, Try.ntmps66
  go_wp2_with (refine wpList_store_new rfl 112 (.tmp 0) (.tmp 6) rfl w.heap.size W20 _ 112 (by rfl) (by rfl) rfl Try.info112 (by rfl) (by kernel_rfl) ?_)
  go_wp2_with fail
  refine bodyPost_ret (results_cell_row (P := Try.prog) rfl _ _ w.heap.size 112 W20 (0, 0) _ rfl (heap_alloc_new w _) Try.underlying112 rfl Try.info112) rfl ?_
  exact ⟨rfl, rfl⟩

theorem PutPost.seq {w w2 w3 : World} {base g t o : Nat} {sv sv2 : Value} {D : List Bool} (hk : Kp (fun k => k = g ∨ sv.ownBlock = some k) w w2) (hr : ∀ k, sv2.ownBlock = some k → sv.ownBlock = some k ∨ w.heap.size ≤ k)
    (h : PutPost w2 base g t o sv2 D w3) : PutPost w base g t o sv D w3 := by
  obtain ⟨cs', sv', h1, h2, h3⟩ := h
  refine ⟨cs', sv', h1, hk.trans h2 ?_, fun k hk' => ?_⟩
  · rintro x hx (h | h)
    · exact Or.inl h
    · rcases hr x h with h | h
      · exact Or.inr h
      · omega
  · rcases h3 k hk' with h | h
    · exact hr k h
    · exact Or.inr (Nat.le_trans hk.size h)
theorem Wr.drew {w : World} {base g t o : Nat} {cs : Array Value} {sv : Value} {C : List Bool} (h : Wr w base g t o cs sv C) : Wr w.drew base g t o cs sv C := ⟨h.arr.drew, h.hv, h.hn, h.own⟩
theorem Wr.alloc {w : World} {base g t o : Nat} {cs : Array Value} {sv : Value} {C : List Bool} (h : Wr w base g t o cs sv C) (x : Obj) : Wr (w.alloc x) base g t o cs sv C :=
  ⟨h.arr.alloc x, h.hv, h.hn, h.own.alloc x⟩

def high : Nat → Int | 0 => 0 | 1 => 64 | 2 => 256 | 3 => 2048 | _ => 0
theorem W20_row {k : Nat} (hk : k < 4) : W20[k * 4]? = some (.int .i64 (k : Int)) ∧ W20[k * 4 + 1]? = some (.int .i64 ((wid k : Nat) : Int)) ∧ W20[k * 4 + 2]? = some (.int .i64 (low k)) ∧ W20[k * 4 + 3]? = some (.int .i64 (high k)) := by
  obtain rfl | rfl | rfl | rfl : k = 0 ∨ k = 1 ∨ k = 2 ∨ k = 3 := by omega
  all_goals exact ⟨rfl, rfl, rfl, rfl⟩
theorem high_b (k : Nat) : 0 ≤ high k ∧ high k ≤ 2048 := by unfold high; split <;> omega

theorem enc_eq {C : List Bool} {k : Nat} {e : Int} (hk : k < 4) (h1 : low k ≤ e) (h2 : e ≤ high k) (h : ∀ j, j < k → ¬ (low j ≤ e ∧ e ≤ high j)) :
    ((C ++ putBits (2 ^ k - 1) k) ++ putBits 0 1) ++ putBits (e - low k) (wid k) = C ++ encDiff e := by
  obtain rfl | rfl | rfl | rfl : k = 0 ∨ k = 1 ∨ k = 2 ∨ k = 3 := by omega
  · simp only [low, high] at h1 h2
    obtain rfl : e = 0 := by omega
    simp only [List.append_assoc]
    rfl
  · have n0 := h 0 (by omega)
    simp only [low, high] at h1 h2 n0
    have e1 : encDiff e = [true, false] ++ putBits (e + 63) 7 := by unfold encDiff; rw [if_neg (by omega), if_pos ⟨h1, h2⟩]
    rw [e1, show e - low 1 = e + 63 by simp only [low]; omega]
    simp only [List.append_assoc]
    rfl
  · have n0 := h 0 (by omega); have n1 := h 1 (by omega)
    simp only [low, high] at h1 h2 n0 n1
    have e1 : encDiff e = [true, true, false] ++ putBits (e + 255) 9 := by unfold encDiff; rw [if_neg (by omega), if_neg n1, if_pos ⟨h1, h2⟩]
    rw [e1, show e - low 2 = e + 255 by simp only [low]; omega]
    simp only [List.append_assoc]
    rfl
  · have n0 := h 0 (by omega); have n1 := h 1 (by omega); have n2 := h 2 (by omega)
    simp only [low, high] at h1 h2 n0 n1 n2
    have e1 : encDiff e = [true, true, true, false] ++ putBits (e + 2047) 12 := by unfold encDiff; rw [if_neg (by omega), if_neg n1, if_neg n2, if_pos ⟨h1, h2⟩]
    rw [e1, show e - low 3 = e + 2047 by simp only [low]; omega]
    simp only [List.append_assoc]
    rfl

set_option maxRecDepth 100000 in
set_option maxHeartbeats 1000000 in
theorem sput_any (base g t o : Nat) (cs : Array Value) (e : Int) (sv : Value) (C : List Bool) (w : World) (ht : 5 ≠ t) (hb : base ≤ w.heap.size) (hl : C.length + 68 ≤ 1000000) (he : -9223372036854775808 ≤ e ∧ e ≤ 9223372036854775807)
    (hw : Wr w base g t o cs sv C) :
    Calls Try.prog 38 #[.pointer (some ⟨g, o, none⟩), .int .i64 e] w fun r w' => r = .returned (.tuple #[]) ∧ PutPost w base g t o sv (C ++ encDiff e) w' := by
  obtain ⟨he1, he2⟩ := he
  go_enter Try.func38, Try.ntmps38
  go_wp2_with (first | (go_at_call 66; refine (widths_any _).mono ?_; rintro e w' ⟨rfl, rfl⟩) | (refine wpList_store_new rfl 112 (.tmp 4) (.tmp 7) rfl (w.heap.size + 1) W20 _ 112 (by rfl) (by rfl) (by simp) Try.info112 (by rfl) (by kernel_rfl) ?_))
  go_loopw [10] (fun i wr => ∃ k : Nat, k ≤ 4 ∧ i = .int .i64 k ∧ Hid (∀ j, j < k → ¬ (low j ≤ e ∧ e ≤ high j)) ∧ Wr wr base g t o cs sv C ∧ Arr wr (w.heap.size + 1) 112 W20 ∧ Kp (fun _ => False) w wr) (fun i _ => 4 - (intOf i).toNat)
  case atStart => exact ⟨0, by omega, rfl, fun j hj => by omega, (hw.alloc _).alloc _, by have := Arr.new (w.alloc (.cells W20 112)) 112 W20; simpa using this, ((Kp.refl _ w).alloc _).alloc _⟩
  case round =>
    obtain ⟨k, hk, rfl, HK, hwr, hA, hkp⟩ := hrel
    by_cases hlt : k < 4
    · obtain ⟨r0, r1, r2, r3⟩ := W20_row hlt
      have c0 := hA.at_ r0
      have c1 := hA.at_ r1
      have c2 := hA.at_ r2
      have c3 := hA.at_ r3
      have hlo := low_b k
      have hhi := high_b k
      have hwid := wid_le k
      clear r0 r1 r2 r3
      by_cases hin : low k ≤ e ∧ e ≤ high k
      · obtain ⟨in1, in2⟩ := hin
        have hp2 : (1 : Int) ≤ 2 ^ k ∧ (2 : Int) ^ k ≤ 8 := by
          obtain rfl | rfl | rfl | rfl : k = 0 ∨ k = 1 ∨ k = 2 ∨ k = 3 := by omega
          all_goals decide
        go_wp2_with fail
        obtain ⟨w1, hw1⟩ : ∃ w1, w1 = wr.alloc (.cells #[.int .i64 (k : Int), .int .i64 ((wid k : Nat) : Int), .int .i64 (low k), .int .i64 (high k)] 111) := ⟨_, rfl⟩
        rw [← hw1]
        have hx1 : Arr w1 wr.heap.size 111 #[.int .i64 (k : Int), .int .i64 ((wid k : Nat) : Int), .int .i64 (low k), .int .i64 (high k)] := by rw [hw1]; exact Arr.new _ _ _
        have hwr1 : Wr w1 base g t o cs sv C := by rw [hw1]; exact hwr.alloc _
        have hkp1 : Kp (fun _ => False) w w1 := by rw [hw1]; exact hkp.alloc _
        have d0 := hx1.cell 0
        have d1 := hx1.cell 1
        have d2 := hx1.cell 2
        have hb1 : base ≤ w1.heap.size := Nat.le_trans hb hkp1.size
        clear hw1
        simp only [List.getElem?_toArray, List.getElem?_cons_zero, List.getElem?_cons_succ] at d0 d1 d2
        have hkeep : ∀ {w' : World} {C' : List Bool}, PutPost w1.drew base g t o sv C' w' → ∀ i, w'.cell? ⟨wr.heap.size, i, none⟩ = w1.cell? ⟨wr.heap.size, i, none⟩ := by
          intro w' C' hp i
          obtain ⟨_, _, _, hk2, _⟩ := hp
          refine World.cell?_of_block (w := w1) (hk2.block wr.heap.size hx1.lt ?_)
          rintro (h | h)
          · have := hwr.arr.lt; omega
          · have := hwr.own.lt _ h; omega
        have hi1 : IntKind.i64.wrap (2 ^ k) = 2 ^ k := IntWalk.i64_in _ (by omega)
        have hi2 : IntKind.i64.wrap (2 ^ k - 1) = 2 ^ k - 1 := IntWalk.i64_in _ (by omega)
        go_region_held3 (fun w' => w'.cell? ⟨wr.heap.size, 0, none⟩ = some (.int .i64 k)) (first | go_keep | exact (hkeep hp 0).trans d0) ((go_at_call 37; have hq := put_any base g t o k cs (2 ^ k - 1) sv C w1.drew (by omega) ht hb1 (by omega) hwr1.drew; refine hq.mono ?_; rintro r0 w2 ⟨rfl, hp⟩))
        go_wp2_with fail
        have e1 := (hkeep hp 1).trans d1
        have e2 := (hkeep hp 2).trans d2
        obtain ⟨cs2, sv2, hwr2, hkp2, hrl2⟩ := hp
        have HP2 : Hid (Kp (fun k => k = g ∨ sv.ownBlock = some k) w w2 ∧ ∀ k, sv2.ownBlock = some k → sv.ownBlock = some k ∨ w.heap.size ≤ k) := by
          refine ⟨(hkp1.drew.mono (fun _ _ h => h.elim)).trans hkp2 (fun _ _ h => h), fun k hk => ?_⟩
          rcases hrl2 k hk with h | h
          · exact Or.inl h
          · exact Or.inr (Nat.le_trans hkp1.size h)
        have hb2 : base ≤ w2.heap.size := Nat.le_trans hb1 hkp2.size
        have hxb : wr.heap.size < w2.heap.size := Nat.lt_of_lt_of_le hx1.lt hkp2.size
        have hq2 := put_any base g t o 1 cs2 0 sv2 (C ++ putBits (2 ^ k - 1) k) w2 (by omega) ht hb2 (by simp [putBits_length]; omega) hwr2
        refine hq2.mono ?_
        rintro r0 w3 ⟨rfl, hp3⟩
        have hsv2 : ∀ x, sv2.ownBlock = some x → x ≠ wr.heap.size := by
          rintro x hx rfl
          rcases hrl2 _ hx with h | h
          · have := hwr.own.lt _ h; omega
          · have h0 : w1.drew.heap.size = w1.heap.size := rfl
            have h1 := hx1.lt
            omega
        have hkeep3 : ∀ i, w3.cell? ⟨wr.heap.size, i, none⟩ = w2.cell? ⟨wr.heap.size, i, none⟩ := by
          intro i
          obtain ⟨_, _, _, hk3, _⟩ := hp3
          refine World.cell?_of_block (w := w2) (hk3.block wr.heap.size hxb ?_)
          rintro (h | h)
          · have := hwr.arr.lt; omega
          · exact hsv2 _ h rfl
        have f1 := (hkeep3 1).trans e1
        have f2 := (hkeep3 2).trans e2
        obtain ⟨cs3, sv3, hwr3, hkp3, hrl3⟩ := hp3
        have hb3 : base ≤ w3.heap.size := Nat.le_trans hb2 hkp3.size
        clear hkeep hkeep3 hq2 hwr2 hkp2 hrl2 e1 e2 d0 d1 d2 hsv2
        go_wp2_with fail
        have hq4 := put_any base g t o (wid k) cs3 (e - low k) sv3 ((C ++ putBits (2 ^ k - 1) k) ++ putBits 0 1) w3 hwid ht hb3 (by simp [putBits_length]; omega) hwr3
        refine hq4.mono ?_
        rintro r0 w4 ⟨rfl, hp4⟩
        have HP4 : Hid (PutPost w base g t o sv (C ++ encDiff e) w4) := by
          show PutPost _ _ _ _ _ _ _ _
          rw [← enc_eq hlt in1 in2 HK.out]
          exact PutPost.seq HP2.out.1 HP2.out.2 (PutPost.seq hkp3 hrl3 hp4)
        clear hq4 hp4 hkp3 hrl3 hwr3 f1 f2
        go_wp2_with fail
        go_returns
        exact ⟨rfl, HP4.out⟩
      · have hout : e < low k ∨ (low k ≤ e ∧ high k < e) := by
          by_cases h : e < low k
          · exact Or.inl h
          · exact Or.inr ⟨by omega, by omega⟩
        have HK2 : Hid (∀ j, j < k + 1 → ¬ (low j ≤ e ∧ e ≤ high j)) := by
          intro j hj
          by_cases h : j = k
          · subst h; exact hin
          · exact HK.out j (by omega)
        clear hin
        rcases hout with h1 | ⟨h1, h2⟩
        all_goals
          go_wp2_with fail
          go_roundw
          case rel => exact ⟨k + 1, by omega, by go_num, HK2, hwr.alloc _, hA.alloc _, hkp.alloc _⟩
          case measure => simp [intOf]; omega
    · obtain rfl : k = 4 := by omega
      have HE : Hid (encDiff e = putBits 15 4 ++ putBits e 64) := by
        have n0 := HK.out 0 (by omega); have n1 := HK.out 1 (by omega); have n2 := HK.out 2 (by omega); have n3 := HK.out 3 (by omega)
        simp only [low, high] at n0 n1 n2 n3
        show _ = _
        unfold encDiff
        rw [if_neg (by omega), if_neg n1, if_neg n2, if_neg n3]
        rfl
      have hb1 : base ≤ wr.heap.size := Nat.le_trans hb hkp.size
      go_wp2_with fail
      have hq1 := put_any base g t o 4 cs 15 sv C wr (by omega) ht hb1 (by omega) hwr
      refine hq1.mono ?_
      rintro r0 w2 ⟨rfl, hp2⟩
      obtain ⟨cs2, sv2, hwr2, hkp2, hrl2⟩ := hp2
      have HP2 : Hid (Kp (fun k => k = g ∨ sv.ownBlock = some k) w w2 ∧ ∀ k, sv2.ownBlock = some k → sv.ownBlock = some k ∨ w.heap.size ≤ k) := by
        refine ⟨(hkp.mono (fun _ _ h => h.elim)).trans hkp2 (fun _ _ h => h), fun k hk => ?_⟩
        rcases hrl2 k hk with h | h
        · exact Or.inl h
        · exact Or.inr (Nat.le_trans hkp.size h)
      have hb2 : base ≤ w2.heap.size := Nat.le_trans hb1 hkp2.size
      clear hq1 hkp2 hrl2
      go_wp2_with fail
      have hq4 := put_any base g t o 64 cs2 e sv2 (C ++ putBits 15 4) w2 (by omega) ht hb2 (by simp [putBits_length]; omega) hwr2
      refine hq4.mono ?_
      rintro r0 w4 ⟨rfl, hp4⟩
      have HP4 : Hid (PutPost w base g t o sv (C ++ encDiff e) w4) := by
        show PutPost _ _ _ _ _ _ _ _
        rw [HE.out, ← List.append_assoc]
        exact PutPost.seq HP2.out.1 HP2.out.2 hp4
      clear hq4 hp4 hwr2
      go_wp2_with fail
      go_returns
      exact ⟨rfl, HP4.out⟩
end Go.Proofs.Ytnbamngancchmaa
