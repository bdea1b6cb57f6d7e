/- What labels.Quote answers: a value's text. Condition: a text of at most 10^6 bytes. -/
import Derived.Test.YtlicnadbccjbjaaDoorSame
import Derived.Test.YtlicnadbccjbjaaDoorShelf
import Derived.Laws.IdiomStrings
import Derived.Laws.BitsAllLaws
import Derived.Deep.AppendLies
import Derived.Deep.RegionLaw
import Derived.Deep.RegionHeld3
namespace Go.Proofs.YtlicnadbccjbjaaDoor
open Go.RowKit LB

theorem Tryd.info5 : (Tryd.prog.info? 5).map (fun i => (i.zero, i.size, i.bytes)) = some (some (.int .u8 0), 1, 1) := by kernel_rfl
/-- The cells of bytes. -/
abbrev bc (l : List UInt8) : List Value := Lib.byteCells l
theorem bc_append (l m : List UInt8) : bc (l ++ m) = bc l ++ bc m := by simp [bc, Lib.byteCells]
theorem bc_len (l : List UInt8) : (bc l).length = l.length := by simp [bc, Lib.byteCells]
theorem take_snoc (s : ByteArray) (k : Nat) (h : k < s.size) : s.data.toList.take (k + 1) = s.data.toList.take k ++ [s[k]] := by
  rw [List.take_succ_eq_append_getElem (by simpa using h)]; rfl
/-- What has been written when k bytes are done. -/
def qTo (s : ByteArray) (k : Nat) : List UInt8 := 34 :: (s.data.toList.take k).flatMap escB
theorem qTo_succ {s : ByteArray} {k : Nat} (h : k < s.size) : qTo s (k + 1) = qTo s k ++ escB s[k] := by
  unfold qTo; rw [take_snoc s k h, List.flatMap_append]; simp
theorem escB_len (c : UInt8) : (escB c).length ≤ 3 := by unfold escB; split <;> simp
theorem qTo_len (s : ByteArray) (k : Nat) (h : k ≤ s.size) : (qTo s k).length ≤ 1 + 3 * k := by
  induction k with
  | zero => simp [qTo]
  | succ k ih =>
    have := ih (by omega)
    have h2 := escB_len s[k]
    rw [qTo_succ (by omega), List.length_append]; omega
theorem qTo_all (s : ByteArray) : qTo s s.size ++ [34] = quoteL s := by
  unfold qTo quoteL
  rw [List.take_of_length_le (by simp)]
def hexS : ByteArray := ⟨#[48, 49, 50, 51, 52, 53, 54, 55, 56, 57, 97, 98, 99, 100, 101, 102]⟩
theorem hexS_at : ∀ n : Fin 16, hexS[n.val]'(by have := n.isLt; exact this) = hexD n.val := by decide

theorem news_row (w : World) (l : List Value) (t : TypeId) : ∀ j v, l[j]? = some v → (w.alloc (.cells l.toArray t)).cell? ((⟨w.heap.size, 0, none⟩ : Addr).add j) = some v := by
  intro j v hv
  have e : (⟨w.heap.size, 0, none⟩ : Addr).add j = ⟨w.heap.size, 0 + j, none⟩ := by unfold Addr.add; split <;> simp_all
  rw [e, Nat.zero_add]
  refine (Arr.new w t l.toArray).at_ ?_
  simpa using hv
theorem own_lit (w : World) (B : Nat) (l : List Value) (t : TypeId) (hB : B ≤ w.heap.size) (hl : l.length ≤ 1000) : (w.alloc (.cells l.toArray t)).ownsRow B t 1 (.slice (some ⟨w.heap.size, 0, none⟩) l.length l.length) l.length l := by
  refine ⟨by simp, .inr ⟨w.heap.size, _, _, rfl, hB, Arr.new w t l.toArray, Nat.le_refl _, by unfold maxLen; omega, by simp, by simp⟩⟩
/-- string(b) of an owned row of bytes. -/
theorem run_convert_bytes_own {P : Program} {w : World} {src dst e : TypeId} {base n c g : Nat} {l : List UInt8} (hs : P.underlying src = some (.slice e)) (he : P.underlying e = some (.int .u8)) (hd : P.underlying dst = some .string)
    (h : w.ownsRow base e 1 (.slice (some ⟨g, 0, none⟩) n c) n (bc l)) (hl : l.length = n) : (convert src dst (.slice (some ⟨g, 0, none⟩) n c)).run P w = .ok (.string ⟨l.toArray⟩) w := by
  subst hl
  refine run_convert_bytes_back w src dst e ⟨g, 0, none⟩ c l hs he hd fun j hj => ?_
  refine h.cells (g := g) rfl j _ ?_
  simp [bc, Lib.byteCells, List.getElem?_eq_getElem hj]
theorem esc_special {c : UInt8} (h : c.toNat < 32 ∨ 126 < c.toNat ∨ c.toNat = 34 ∨ c.toNat = 92) : escB c = [92, hexD (c.toNat / 16), hexD (c.toNat % 16)] := by unfold escB; rw [if_pos h]
theorem esc_plain {c : UInt8} (h : ¬ (c.toNat < 32 ∨ 126 < c.toNat ∨ c.toNat = 34 ∨ c.toNat = 92)) : escB c = [c] := by unfold escB; rw [if_neg h]
theorem and15 (c : UInt8) : bits .and .u8 (c.toNat : Int) 15 = ((c.toNat % 16 : Nat) : Int) := by
  have h : c.toNat < 256 := c.toNat_lt
  have := u8_and_nat c.toNat 15 h (by decide)
  rw [nat_mask4] at this
  exact this
theorem hexS_nat {n : Nat} (h : n < 16) (h' : n < hexS.size) : (hexS[n]).toNat = (hexD n).toNat := congrArg _ (hexS_at ⟨n, h⟩)

set_option maxRecDepth 100000 in
set_option maxHeartbeats 2000000 in
theorem quote_any (s : ByteArray) (w : World) (hs : s.size ≤ 1000000) : Calls Tryd.prog 27 #[.string s] w fun e w' => e = .returned (.string ⟨(quoteL s).toArray⟩) ∧ Below w.heap.size w w' := by
  obtain ⟨i0, hi, hz0, hz1, hz2⟩ := info_parts Tryd.info5
  go_enter Tryd.func27, Tryd.ntmps27
  go_wp2_with fail
  go_loopw [3, 9] (fun v i wr => ∃ (k m : Nat) (l : List UInt8), k ≤ s.size ∧ i = .int .i64 k ∧ Hid (l = qTo s k ∧ l.length = m) ∧ m ≤ 1 + 3 * k ∧ wr.ownsRow w.heap.size 5 1 v m (bc l) ∧ Below w.heap.size w wr) (fun _ i _ => s.size - (intOf i).toNat)
  case atStart => exact ⟨0, 1, [34], Nat.zero_le _, rfl, ⟨by simp [qTo], rfl⟩, by omega, own_lit w _ [.int .u8 34] 5 (Nat.le_refl _) (by decide), (Below.refl _ w).alloc (Nat.le_refl _) _⟩
  case round =>
    obtain ⟨k, m, l, hk, rfl, HL, hm, hown, hb⟩ := hrel
    have hsz := hb.size
    by_cases hlt : k < s.size
    · obtain ⟨c, hc⟩ : ∃ c, c = s[k] := ⟨_, rfl⟩
      have HC := Lib.hid hc
      by_cases hq : c.toNat < 32 ∨ 126 < c.toNat ∨ c.toNat = 34 ∨ c.toNat = 92
      · have HN : Hid (qTo s (k + 1) = l ++ [92, hexD (c.toNat / 16), hexD (c.toNat % 16)]) := by
          show _ = _
          rw [qTo_succ hlt, HL.out.1, ← hc, esc_special hq]
        have hc256 : c.toNat < 256 := c.toNat_lt
        obtain ⟨X, hX⟩ : ∃ X, X = c.toNat / 16 := ⟨_, rfl⟩
        obtain ⟨Y, hY⟩ : ∃ Y, Y = c.toNat % 16 := ⟨_, rfl⟩
        have hX16 : X < 16 := by omega
        have hY16 : Y < 16 := by omega
        have a15 := and15 c
        have d16 : ((c.toNat : Nat) : Int) / 16 = (X : Int) := by rw [hX]; rfl
        rw [← hY] at a15
        rw [← hX, ← hY] at HN
        rw [hc] at a15 d16
        have hm2 : m + 3 ≤ 3000004 := by omega
        have hX1 : (X : Int) < 16 := by omega
        have hY1 : (Y : Int) < 16 := by omega
        have hX0 : (0 : Int) ≤ (X : Int) := by omega
        have hY0 : (0 : Int) ≤ (Y : Int) := by omega
        have hrow : bc [92, hexD X, hexD Y] = [.int .u8 92, .int .u8 (hexS[X]'hX16).toNat, .int .u8 (hexS[Y]'hY16).toNat] := by
          rw [hexS_nat hX16 hX16, hexS_nat hY16 hY16]; rfl
        have HR : Hid (bc (l ++ [92, hexD X, hexD Y]) = bc l ++ [.int .u8 92, .int .u8 (hexS[X]'hX16).toNat, .int .u8 (hexS[Y]'hY16).toNat]) := by
          show _ = _
          rw [bc_append, hrow]
        clear hrow
        rcases (show c.toNat = 34 ∨ c.toNat = 92 ∨ (c.toNat < 32) ∨ (126 < c.toNat ∧ c.toNat ≠ 34 ∧ c.toNat ≠ 92 ∧ ¬ c.toNat < 32) by omega) with h1 | h1 | h1 | ⟨h1, h2, h3, h4⟩
        · have e1 : (((s[k]).toNat : Int) == 34) = true := by rw [← hc, h1]; rfl
          clear hc hX hY h1 hq
          go_wp2_with fail
          go_region_held3 (fun _ => True) (trivial) ((refine step_append_lies _ (by rfl) (.tmp 29) (.tmp 36) 35 (by rfl) w.heap.size 5 i0 (.int .u8 0) 1 1 Tryd.underlying35 hi hz0 hz1 hz2 rfl (by decide) u3 m (bc l) (by rfl) (hown.alloc _) ⟨wr.heap.size, 0, none⟩ 3 3 [.int .u8 92, .int .u8 hexS[X].toNat, .int .u8 hexS[Y].toNat] (by rfl) (by rfl) (news_row wr _ 5) (by simp [Value.oneCell']) (by omega) (by unfold maxLen; omega) (by omega) (by simp; omega) (wr.heap.size + 1) (by simp) ?_; intro r cap w3 hown3 hg3 hat3 hlt3))
          all_goals
            have HF : Hid (w3.ownsRow w.heap.size 5 1 (.slice (some ⟨r, 0, none⟩) (m + 3) cap) (m + 3) (bc (l ++ [92, hexD X, hexD Y])) ∧ Below w.heap.size w w3) := by
              refine ⟨?_, (hb.alloc hsz _).drew.grown hg3 (by simp; omega) (fun x hx => (hown.lt x hx).1)⟩
              rw [HR.out]
              exact hown3
            clear hown3 hg3 hat3 hlt3 hown hb
            go_wp2_with fail
            go_roundw
            case rel => exact ⟨k + 1, m + 3, _, by omega, by go_num, ⟨HN.out.symm, by rw [List.length_append, HL.out.2]; rfl⟩, by omega, HF.out.1, HF.out.2⟩
            case measure => simp [intOf]; omega
        · have e1 : (((s[k]).toNat : Int) == 34) = false := by rw [← hc, h1]; rfl
          have e2 : (((s[k]).toNat : Int) == 92) = true := by rw [← hc, h1]; rfl
          clear hc hX hY h1 hq
          go_wp2_with fail
          go_region_held3 (fun _ => True) (trivial) ((refine step_append_lies _ (by rfl) (.tmp 29) (.tmp 36) 35 (by rfl) w.heap.size 5 i0 (.int .u8 0) 1 1 Tryd.underlying35 hi hz0 hz1 hz2 rfl (by decide) u3 m (bc l) (by rfl) (hown.alloc _) ⟨wr.heap.size, 0, none⟩ 3 3 [.int .u8 92, .int .u8 hexS[X].toNat, .int .u8 hexS[Y].toNat] (by rfl) (by rfl) (news_row wr _ 5) (by simp [Value.oneCell']) (by omega) (by unfold maxLen; omega) (by omega) (by simp; omega) (wr.heap.size + 1) (by simp) ?_; intro r cap w3 hown3 hg3 hat3 hlt3))
          all_goals
            have HF : Hid (w3.ownsRow w.heap.size 5 1 (.slice (some ⟨r, 0, none⟩) (m + 3) cap) (m + 3) (bc (l ++ [92, hexD X, hexD Y])) ∧ Below w.heap.size w w3) := by
              refine ⟨?_, (hb.alloc hsz _).drew.grown hg3 (by simp; omega) (fun x hx => (hown.lt x hx).1)⟩
              rw [HR.out]
              exact hown3
            clear hown3 hg3 hat3 hlt3 hown hb
            go_wp2_with fail
            go_roundw
            case rel => exact ⟨k + 1, m + 3, _, by omega, by go_num, ⟨HN.out.symm, by rw [List.length_append, HL.out.2]; rfl⟩, by omega, HF.out.1, HF.out.2⟩
            case measure => simp [intOf]; omega
        · have e1 : (((s[k]).toNat : Int) == 34) = false := by rw [← hc, beq_eq_false_iff_ne]; omega
          have e2 : (((s[k]).toNat : Int) == 92) = false := by rw [← hc, beq_eq_false_iff_ne]; omega
          have e3 : decide (((s[k]).toNat : Int) < 32) = true := by rw [← hc]; exact decide_eq_true (by omega)
          clear hc hX hY h1 hq
          go_wp2_with fail
          go_region_held3 (fun _ => True) (trivial) ((refine step_append_lies _ (by rfl) (.tmp 29) (.tmp 36) 35 (by rfl) w.heap.size 5 i0 (.int .u8 0) 1 1 Tryd.underlying35 hi hz0 hz1 hz2 rfl (by decide) u3 m (bc l) (by rfl) (hown.alloc _) ⟨wr.heap.size, 0, none⟩ 3 3 [.int .u8 92, .int .u8 hexS[X].toNat, .int .u8 hexS[Y].toNat] (by rfl) (by rfl) (news_row wr _ 5) (by simp [Value.oneCell']) (by omega) (by unfold maxLen; omega) (by omega) (by simp; omega) (wr.heap.size + 1) (by simp) ?_; intro r cap w3 hown3 hg3 hat3 hlt3))
          all_goals
            have HF : Hid (w3.ownsRow w.heap.size 5 1 (.slice (some ⟨r, 0, none⟩) (m + 3) cap) (m + 3) (bc (l ++ [92, hexD X, hexD Y])) ∧ Below w.heap.size w w3) := by
              refine ⟨?_, (hb.alloc hsz _).drew.grown hg3 (by simp; omega) (fun x hx => (hown.lt x hx).1)⟩
              rw [HR.out]
              exact hown3
            clear hown3 hg3 hat3 hlt3 hown hb
            go_wp2_with fail
            go_roundw
            case rel => exact ⟨k + 1, m + 3, _, by omega, by go_num, ⟨HN.out.symm, by rw [List.length_append, HL.out.2]; rfl⟩, by omega, HF.out.1, HF.out.2⟩
            case measure => simp [intOf]; omega
        · have e1 : (((s[k]).toNat : Int) == 34) = false := by rw [← hc, beq_eq_false_iff_ne]; omega
          have e2 : (((s[k]).toNat : Int) == 92) = false := by rw [← hc, beq_eq_false_iff_ne]; omega
          have e3 : decide (((s[k]).toNat : Int) < 32) = false := by rw [← hc]; exact decide_eq_false (by omega)
          have e4 : decide (126 < ((s[k]).toNat : Int)) = true := by rw [← hc]; exact decide_eq_true (by omega)
          clear hc hX hY h1 h2 h3 h4 hq
          go_wp2_with fail
          go_region_held3 (fun _ => True) (trivial) ((refine step_append_lies _ (by rfl) (.tmp 29) (.tmp 36) 35 (by rfl) w.heap.size 5 i0 (.int .u8 0) 1 1 Tryd.underlying35 hi hz0 hz1 hz2 rfl (by decide) u3 m (bc l) (by rfl) (hown.alloc _) ⟨wr.heap.size, 0, none⟩ 3 3 [.int .u8 92, .int .u8 hexS[X].toNat, .int .u8 hexS[Y].toNat] (by rfl) (by rfl) (news_row wr _ 5) (by simp [Value.oneCell']) (by omega) (by unfold maxLen; omega) (by omega) (by simp; omega) (wr.heap.size + 1) (by simp) ?_; intro r cap w3 hown3 hg3 hat3 hlt3))
          all_goals
            have HF : Hid (w3.ownsRow w.heap.size 5 1 (.slice (some ⟨r, 0, none⟩) (m + 3) cap) (m + 3) (bc (l ++ [92, hexD X, hexD Y])) ∧ Below w.heap.size w w3) := by
              refine ⟨?_, (hb.alloc hsz _).drew.grown hg3 (by simp; omega) (fun x hx => (hown.lt x hx).1)⟩
              rw [HR.out]
              exact hown3
            clear hown3 hg3 hat3 hlt3 hown hb
            go_wp2_with fail
            go_roundw
            case rel => exact ⟨k + 1, m + 3, _, by omega, by go_num, ⟨HN.out.symm, by rw [List.length_append, HL.out.2]; rfl⟩, by omega, HF.out.1, HF.out.2⟩
            case measure => simp [intOf]; omega
      · have HN : Hid (qTo s (k + 1) = l ++ [s[k]]) := by
          show _ = _
          rw [qTo_succ hlt, HL.out.1, ← hc, esc_plain hq]
        have e1 : (((s[k]).toNat : Int) == 34) = false := by rw [← hc, beq_eq_false_iff_ne]; omega
        have e2 : (((s[k]).toNat : Int) == 92) = false := by rw [← hc, beq_eq_false_iff_ne]; omega
        have e3 : decide (((s[k]).toNat : Int) < 32) = false := by rw [← hc]; exact decide_eq_false (by omega)
        have e4 : decide (126 < ((s[k]).toNat : Int)) = false := by rw [← hc]; exact decide_eq_false (by omega)
        clear hc hq
        go_wp2_with (at_builtin; refine wpList_append_lies _ rfl (.tmp 38) (.tmp 40) 35 rfl w.heap.size 5 i0 (.int .u8 0) 1 1 Tryd.underlying35 hi hz0 hz1 hz2 rfl (by decide) u3 m (bc l) rfl (hown.alloc _) ⟨wr.heap.size, 0, none⟩ 1 1 [.int .u8 (s[k].toNat : Int)] rfl rfl (news_row wr _ 5) (by simp [Value.oneCell']) (by omega) (by unfold maxLen; omega) (by omega) (by simp; omega) (wr.heap.size + 1) (by simp) ?_; intro r cap w3 hown3 hg3 hat3 hlt3)
        have HF : Hid (w3.ownsRow w.heap.size 5 1 (.slice (some ⟨r, 0, none⟩) (m + 1) cap) (m + 1) (bc (l ++ [s[k]])) ∧ Below w.heap.size w w3) := by
          refine ⟨?_, (hb.alloc hsz _).grown hg3 (by simp; omega) (fun x hx => (hown.lt x hx).1)⟩
          rw [bc_append]
          exact hown3
        clear hown3 hg3 hat3 hlt3 hown hb
        go_wp2_with fail
        go_roundw
        case rel => exact ⟨k + 1, m + 1, _, by omega, by go_num, ⟨HN.out.symm, by rw [List.length_append, HL.out.2]; rfl⟩, by omega, HF.out.1, HF.out.2⟩
        case measure => simp [intOf]; omega
    · obtain rfl : k = s.size := by omega
      have HQ : Hid (l ++ [34] = quoteL s) := by
        show _ = _
        rw [HL.out.1, qTo_all]
      have hm2 : m + 1 ≤ 3000004 := by omega
      go_wp2_with (at_builtin; refine wpList_append_lies _ rfl (.tmp 43) (.tmp 44) 35 rfl w.heap.size 5 i0 (.int .u8 0) 1 1 Tryd.underlying35 hi hz0 hz1 hz2 rfl (by decide) u3 m (bc l) rfl (hown.alloc _) ⟨wr.heap.size, 0, none⟩ 1 1 [.int .u8 34] rfl rfl (news_row wr _ 5) (by simp [Value.oneCell']) (by omega) (by unfold maxLen; omega) (by omega) (by simp; omega) (wr.heap.size + 1) (by simp) ?_; intro r cap w3 hown3 hg3 hat3 hlt3)
      have HF : Hid (w3.ownsRow w.heap.size 5 1 (.slice (some ⟨r, 0, none⟩) (m + 1) cap) (m + 1) (bc (l ++ [34])) ∧ Below w.heap.size w w3) := by
        refine ⟨?_, (hb.alloc hsz _).grown hg3 (by simp; omega) (fun x hx => (hown.lt x hx).1)⟩
        rw [bc_append]
        exact hown3
      have hcv := run_convert_bytes_own Tryd.underlying35 Tryd.underlying5 Tryd.underlying9 HF.out.1 (by rw [List.length_append, HL.out.2]; rfl)
      rw [HQ.out] at hcv
      clear hown3 hg3 hat3 hlt3 hown hb
      go_wp2_with fail
      rw [hcv]
      simp only [Result.andThen]
      rw [Oper.upon_value]
      go_wp2_with fail
      go_ret
      exact ⟨rfl, HF.out.2⟩
end Go.Proofs.YtlicnadbccjbjaaDoor
