/- Times that go by one step take one bit each, behind the first two: the statement StampsSteady, for every input. No conditions. -/
import Derived.Test.YtnbamngancchmaaLaw
namespace Go.Proofs.Ytnbamngancchmaa.stampsSteady
open Go.ChangeShapes Go.WideShapes Go.ChangeAt Go.RowKit PB PS

def sl (f s : Int) (n : Nat) : List Int := (List.range n).map fun (i : Nat) => f + (i : Int) * s
theorem sl_len (f s : Int) (n : Nat) : (sl f s n).length = n := by simp [sl]
theorem sl_get {f s : Int} {n i : Nat} (h : i < n) : (sl f s n).getD i 0 = f + (i : Int) * s := by simp [sl, List.getD, h]
theorem sl_succ (f s : Int) (n : Nat) : sl f s (n + 1) = sl f s n ++ [f + (n : Int) * s] := by simp [sl, List.range_succ]
theorem mul_b {s : Int} {i : Nat} (h1 : 1 ≤ s) (h2 : s ≤ 1099511627776) (hi : i ≤ 120) : 0 ≤ (i : Int) * s ∧ (i : Int) * s ≤ 131941395333120 := by
  refine ⟨Int.mul_nonneg (by omega) (by omega), ?_⟩
  have h3 : (i : Int) * s ≤ 120 * s := Int.mul_le_mul_of_nonneg_right (by omega) (by omega)
  omega
theorem mul_pred (s : Int) (i : Nat) (hi : 1 ≤ i) : ((i : Int)) * s = ((i - 1 : Nat) : Int) * s + s := by
  have : (i : Int) = ((i - 1 : Nat) : Int) + 1 := by omega
  conv => lhs; rw [this, Int.add_mul, Int.one_mul]
theorem good_sl {f s : Int} {n : Nat} (f0 : 0 ≤ f) (f1 : f ≤ 1125899906842624) (h1 : 1 ≤ s) (h2 : s ≤ 1099511627776) (hn : n ≤ 120) : packE (sl f s n) = 0 := by
  refine packE_zero.2 ⟨by rw [sl_len]; exact hn, ?_⟩
  unfold good
  rw [List.all_eq_true]
  intro i hi
  rw [sl_len] at hi
  have hi : i < n := by simpa using hi
  have hb := mul_b (i := i) h1 h2 (by omega)
  refine goodAt_mk ?_ ?_
  · rw [sl_get hi]; omega
  · intro h0
    rw [sl_get hi, sl_get (show i - 1 < n by omega), mul_pred s i h0]
    omega
def second (s : Int) : Nat := if s ≤ 64 then 9 else if s ≤ 256 then 12 else if s ≤ 2048 then 16 else 68
theorem encDiff_len {s : Int} (h1 : 1 ≤ s) : (encDiff s).length = second s := by
  unfold encDiff second
  rw [if_neg (by omega)]
  by_cases c1 : s ≤ 64
  · rw [if_pos ⟨by omega, c1⟩, if_pos c1]; simp [putBits_length]
  · rw [if_neg (by omega), if_neg c1]
    by_cases c2 : s ≤ 256
    · rw [if_pos ⟨by omega, c2⟩, if_pos c2]; simp [putBits_length]
    · rw [if_neg (by omega), if_neg c2]
      by_cases c3 : s ≤ 2048
      · rw [if_pos ⟨by omega, c3⟩, if_pos c3]; simp [putBits_length]
      · rw [if_neg (by omega), if_neg c3]; simp [putBits_length]
theorem enc_len {f s : Int} {n : Nat} (h1 : 1 ≤ s) : ∀ k, k + 2 ≤ n → (enc (sl f s n) (k + 2)).length = 64 + second s + k := by
  intro k
  induction k with
  | zero =>
    intro hk
    rw [enc_succ, enc_succ, enc_zero, List.nil_append, List.length_append]
    have e0 : encAt (sl f s n) 0 = putBits ((sl f s n).getD 0 0) 64 := rfl
    have e1 : encAt (sl f s n) 1 = encDiff s := by
      unfold encAt
      rw [if_neg (by omega), sl_get (show 1 < n by omega), sl_get (show 1 - 1 < n by omega)]
      have : dprev (sl f s n) 1 = 0 := rfl
      rw [this]
      congr 1
      simp
      omega
    rw [e0, putBits_length, e1, encDiff_len h1]; rfl
  | succ k ih =>
    intro hk
    rw [enc_succ, List.length_append, ih (by omega)]
    have e1 : encAt (sl f s n) (k + 2) = encDiff 0 := by
      unfold encAt dprev
      rw [if_neg (by omega), if_neg (by omega), sl_get (show k + 2 < n by omega), sl_get (show k + 2 - 1 < n by omega), sl_get (show k + 2 - 2 < n by omega)]
      congr 1
      have a1 := mul_pred s (k + 2) (by omega)
      have a2 := mul_pred s (k + 1) (by omega)
      rw [show k + 2 - 1 = k + 1 by omega] at a1 ⊢
      rw [show k + 1 - 1 = k by omega] at a2
      rw [show k + 2 - 2 = k by omega]
      omega
    rw [e1]
    have : (encDiff 0).length = 1 := rfl
    omega
theorem packB_len {f s : Int} {n : Nat} (f0 : 0 ≤ f) (f1 : f ≤ 1125899906842624) (h1 : 1 ≤ s) (h2 : s ≤ 1099511627776) (h3 : 2 ≤ n) (hn : n ≤ 120) : (packB (sl f s n)).length = (64 + second s + (n - 2) + 7) / 8 := by
  unfold packB
  rw [if_pos (good_sl f0 f1 h1 h2 hn), bytesOf_length, sl_len]
  obtain ⟨k, rfl⟩ : ∃ k, n = k + 2 := ⟨n - 2, by omega⟩
  rw [enc_len h1 k (Nat.le_refl _)]
  simp

theorem Try.info3 : (Try.prog.info? 3).map (fun i => (i.zero, i.size, i.bytes)) = some (some (.int .i64 0), 1, 8) := by kernel_rfl

theorem ret_bool {b : Bool} (h : b = true) : Ending.returned (.bool b) = .returned (.bool true) := by rw [h]
set_option maxRecDepth 100000 in
set_option maxHeartbeats 1000000 in
theorem walk (f s n : Int) (w : World) :
    Calls Try.prog 3 #[.int .i64 f, .int .i64 s, .int .i64 n] w fun e w' => e = .returned (.bool true) ∧ Below w.heap.size w w' := by
  obtain ⟨i0, hi, hz0, hz1, hz2⟩ := info_parts Try.info3
  by_cases hin : 0 ≤ f ∧ f ≤ 1125899906842624 ∧ 1 ≤ s ∧ s ≤ 1099511627776 ∧ 2 ≤ n ∧ n ≤ 120
  · obtain ⟨f0, f1, s0, s1, n0, n1⟩ := hin
    obtain ⟨m, rfl⟩ := Int.eq_ofNat_of_zero_le (show 0 ≤ n by omega)
    go_enter Try.func3, Try.ntmps3
    go_wp2_with fail
    refine (alive12 w).mono ?_
    rintro e w1 ⟨rfl, hb1⟩
    go_wp2_with fail
    go_loopw [8, 9] (fun v i wr => ∃ k : Nat, k ≤ m ∧ i = .int .i64 k ∧ wr.ownsRow w.heap.size 3 1 v k (ints (sl f s k)) ∧ Below w.heap.size w wr) (fun _ i _ => m - (intOf i).toNat)
    case atStart => exact ⟨0, Nat.zero_le _, rfl, World.ownsRow_nil _ _ _ _, hb1⟩
    case round =>
      obtain ⟨k, hk, rfl, hown, hb⟩ := hrel
      by_cases hlt : k < m
      · obtain ⟨mb1, mb2⟩ := mul_b (i := k) s0 s1 (by omega)
        have hsz := hb.size
        go_wp2_with (at_builtin; refine wpList_append_own_at _ rfl (.tmp 46) (.tmp 52) 23 rfl w.heap.size 3 i0 (.int .i64 0) 1 8 Try.underlying23 hi hz0 hz1 hz2 rfl (by decide) _ k (ints (sl f s k)) rfl (hown.alloc _) ⟨wr.heap.size, 0, none⟩ 1 1 [.int .i64 (f + (k : Int) * s)] rfl rfl (cell_one_new wr _ 3) (by simp [Value.oneCell']) (by unfold maxLen; omega) (by omega) (by simp; omega) ?_; intro v1 w2 hown1 hg1 _ hat1)
        have HF : Hid (w2.ownsRow w.heap.size 3 1 v1 (k + 1) (ints (sl f s (k + 1))) ∧ Below w.heap.size w w2) := by
          refine ⟨?_, (hb.alloc hb.size _).grown hg1 (by simp; omega) (fun x hx => (hown.lt x hx).1)⟩
          rw [sl_succ]
          simpa [ints] using hown1
        clear hown1 hg1 hat1 hown hb
        go_wp2_with fail
        go_roundw
        case rel => exact ⟨k + 1, by omega, by go_num, HF.out.1, HF.out.2⟩
        case measure => simp [intOf]; omega
      · obtain rfl : k = m := by omega
        obtain ⟨A, c, rfl, hr, _⟩ := Rd.of_own hown
        have hp := pack_any A k c wr.heap.size (sl f s k) wr hr (Nat.le_refl _) (by omega)
        unfold PackPost at hp
        rw [good_sl f0 f1 s0 s1 (by omega)] at hp
        have hlen := packB_len f0 f1 s0 s1 (show 2 ≤ k by omega) (show k ≤ 120 by omega)
        obtain ⟨L, hL⟩ : ∃ L, L = (packB (sl f s k)).length := ⟨_, rfl⟩
        rw [← hL] at hlen hp
        have HLEN := Lib.hid hlen
        have HBB := Lib.hid hb
        clear hlen hL hown hr hb
        go_wp2_with fail
        refine hp.mono ?_
        rintro e w2 ⟨v, rfl, hown2, hb2⟩
        obtain ⟨A2, c2, rfl, _⟩ := Rd.of_own hown2
        have HB2 := Lib.hid (HBB.out.trans (hb2.mono HBB.out.size))
        clear hown2 hb2 hp
        have hcase : (s ≤ 64 ∧ 8 * L ≤ 78 + k ∧ 78 + k < 8 * L + 8) ∨ (64 < s ∧ s ≤ 256 ∧ 8 * L ≤ 81 + k ∧ 81 + k < 8 * L + 8) ∨ (64 < s ∧ 256 < s ∧ s ≤ 2048 ∧ 8 * L ≤ 85 + k ∧ 85 + k < 8 * L + 8) ∨ (64 < s ∧ 256 < s ∧ 2048 < s ∧ 8 * L ≤ 137 + k ∧ 137 + k < 8 * L + 8) := by
          have h := HLEN.out
          unfold second at h
          by_cases c1 : s ≤ 64
          · rw [if_pos c1] at h; exact Or.inl ⟨c1, by omega, by omega⟩
          · rw [if_neg c1] at h
            by_cases c2 : s ≤ 256
            · rw [if_pos c2] at h; exact Or.inr (Or.inl ⟨by omega, c2, by omega, by omega⟩)
            · rw [if_neg c2] at h
              by_cases c3 : s ≤ 2048
              · rw [if_pos c3] at h; exact Or.inr (Or.inr (Or.inl ⟨by omega, by omega, c3, by omega, by omega⟩))
              · rw [if_neg c3] at h; exact Or.inr (Or.inr (Or.inr ⟨by omega, by omega, by omega, by omega, by omega⟩))
        rcases hcase with ⟨c1, l1, l2⟩ | ⟨c1, c2, l1, l2⟩ | ⟨c1, c2, c3, l1, l2⟩ | ⟨c1, c2, c3, l1, l2⟩
        all_goals
          go_wp2_with (go_at_call 14; refine (num14 _ _).mono ?_; rintro e w' ⟨rfl, rfl⟩)
          go_ret
          exact ⟨ret_bool (beq_iff_eq.2 (by omega)), HB2.out⟩
  · have hcase : f < 0 ∨ (0 ≤ f ∧ 1125899906842624 < f) ∨ (0 ≤ f ∧ f ≤ 1125899906842624 ∧ s < 1) ∨ (0 ≤ f ∧ f ≤ 1125899906842624 ∧ 1 ≤ s ∧ 1099511627776 < s) ∨ (0 ≤ f ∧ f ≤ 1125899906842624 ∧ 1 ≤ s ∧ s ≤ 1099511627776 ∧ n < 2) ∨ (0 ≤ f ∧ f ≤ 1125899906842624 ∧ 1 ≤ s ∧ s ≤ 1099511627776 ∧ 2 ≤ n ∧ 120 < n) := by omega
    clear hin
    rcases hcase with h1 | ⟨h1, h2⟩ | ⟨h1, h2, h3⟩ | ⟨h1, h2, h3, h4⟩ | ⟨h1, h2, h3, h4, h5⟩ | ⟨h1, h2, h3, h4, h5, h6⟩
    all_goals
      go_enter Try.func3, Try.ntmps3
      go_wp2_with fail
      refine (alive12 w).mono ?_
      rintro e w1 ⟨rfl, hb1⟩
      go_wp2_with fail
      go_ret
      exact ⟨rfl, hb1⟩

set_option maxRecDepth 100000 in
theorem lifted (os : Os) (started : os.Started) (H : Type) (enc : TypeId × Value → H) :
    ReturnsInHanded {} Try.checked os 3 .any (Rows.stampsSteadySpec.pre6 enc Try.prog Try.f3 Rows.stampsSteadyRow.domain false) (Rows.stampsSteadySpec.post enc Try.prog Try.f3 false true false false) := by
  refine returnsInHanded_of_change (C := Try.checked) Try.own started (by kernel_rfl) Try.func3
    (ChangeSpec.witness6 (enc := enc) (C := Try.checked) false ⟨#[], #[.int .i64 0, .int .i64 0, .int .i64 0], []⟩ 8 (by kernel_rfl) (by kernel_rfl) (by kernel_rfl) (by kernel_rfl)) ?_
  intro W base args ds gs before hval0 hW hcnd _
  have hval : ∀ (j : Nat) t v, Try.f3.params[j]? = some t → args[j]? = some v → Value.okWide Try.prog W .any base t v := hval0
  have hW' := hW
  obtain ⟨p, q, hA0, hV, rfl, hfz, hnd⟩ := hW
  have hA : DataW.TrodAll enc Try.prog W 0 (fun _ => true) true Try.f3.params.toList args.toList ds p := hA0
  rw [Try.params3] at hA hval
  obtain ⟨v0, vs0, d0, ds0, p0, q0, hargs, rfl, rfl, h0, r0⟩ := trodAll_cons hA
  obtain ⟨v1, vs1, d1, ds1, p1, q1, rfl, rfl, rfl, h1, r1⟩ := trodAll_cons r0
  obtain ⟨v2, vs2, d2, ds2, p2, q2, rfl, rfl, rfl, h2, r2⟩ := trodAll_cons r1
  obtain ⟨rfl, rfl, rfl⟩ := trodAll_nil r2
  obtain rfl : args = #[v0, v1, v2] := by cases args; simp_all
  obtain ⟨rfl, rfl⟩ := trodVars_none hV
  obtain ⟨a0, rfl, rfl, rfl, w0⟩ := open_int Try.underlying3 (hval 0 3 v0 rfl rfl) h0
  obtain ⟨a1, rfl, rfl, rfl, w1⟩ := open_int Try.underlying3 (hval 1 3 v1 rfl rfl) h1
  obtain ⟨a2, rfl, rfl, rfl, w2⟩ := open_int Try.underlying3 (hval 2 3 v2 rfl rfl) h2
  refine (walk a0 a1 a2 W).mono fun e W' ⟨he, hb⟩ => ?_
  subst he
  exact ⟨_, rfl, law_post Try.laidOut (by kernel_rfl) rfl rfl Try.underlying4 hW' ⟨rfl, rfl, rfl⟩ hb⟩

theorem over : Rows.stampsSteadyRow.holds Try.pinned (OpenSpec.ofChange Rows.stampsSteadySpec) :=
  OpenClaim.holds_of_wide 3 Try.f3 rfl rfl rfl rfl rfl rfl rfl ⟨rfl, rfl, rfl, rfl, rfl⟩ rfl rfl rfl rfl rfl (by kernel_rfl) Try.func3 (by kernel_rfl)
    (of_decide_eq_true (by kernel_rfl)) (by unfold Func.isWrapper; first | (rw [if_pos (by decide +kernel)]; kernel_rfl) | (rw [if_neg (by decide +kernel)]; exact ⟨rfl, rfl⟩))
    (fun os started H enc _ => lifted os started H enc)

/-- ████ THE STATEMENT ████ -/
theorem proved : Rows.StampsSteadySaid :=
  over
end Go.Proofs.Ytnbamngancchmaa.stampsSteady
