/- A value that does not change takes one bit, and two that are told in turns take the same window each time: the statement ValuesStill, for every input. No conditions. -/
import Derived.Test.YtnbamngancchmaaVpacks
namespace Go.Proofs.Ytnbamngancchmaa.valuesStill
open Go.ChangeShapes Go.WideShapes Go.ChangeAt Go.RowKit PB PV

def tl (a b : Int) (n : Nat) : List Int := (List.range n).map fun (i : Nat) => if i % 2 = 1 then b else a
def sl (a : Int) (n : Nat) : List Int := List.replicate n a
theorem tl_len (a b : Int) (n : Nat) : (tl a b n).length = n := by simp [tl]
theorem sl_len (a : Int) (n : Nat) : (sl a n).length = n := by simp [sl]
theorem tl_get {a b : Int} {n i : Nat} (h : i < n) : (tl a b n).getD i 0 = if i % 2 = 1 then b else a := by simp [tl, List.getD, h]
theorem sl_get {a : Int} {n i : Nat} (h : i < n) : (sl a n).getD i 0 = a := by simp [sl, List.getD, h]
theorem tl_succ (a b : Int) (n : Nat) : tl a b (n + 1) = tl a b n ++ [if n % 2 = 1 then b else a] := by simp [tl, List.range_succ]
theorem sl_succ (a : Int) (n : Nat) : sl a (n + 1) = sl a n ++ [a] := by simp [sl, List.replicate_succ']
theorem xat_sl {a : Int} {n i : Nat} (h : i < n) : xat (sl a n) i = 0 := by
  unfold xat; rw [sl_get h, sl_get (by omega)]; exact Nat.xor_self _
theorem xat_tl {a b : Int} {n i : Nat} (h0 : 0 < i) (h : i < n) : xat (tl a b n) i = un a ^^^ un b := by
  unfold xat
  rw [tl_get h, tl_get (show i - 1 < n by omega)]
  by_cases hm : i % 2 = 1
  · rw [if_pos hm, if_neg (by omega)]; exact Nat.xor_comm _ _
  · rw [if_neg hm, if_pos (by omega)]
theorem encX_zero (win : Option (Nat × Nat)) : encX win 0 = ([false], win) := by unfold encX; rw [if_pos rfl]
/-- Where all differences are 0. -/
theorem enc_flat {l : List Int} {n : Nat} (h : ∀ i, 0 < i → i < n → xat l i = 0) : ∀ k, k + 1 ≤ n → (encV l (k + 1)).1.length = 64 + k := by
  intro k
  induction k with
  | zero => intro _; rw [encV_one]; simp [putBits_length]
  | succ k ih =>
    intro hk
    rw [encV_succ l (by omega), h (k + 1) (by omega) (by omega), encX_zero]
    simp only [List.length_append, ih (by omega)]
    rfl
/-- Where all differences are one that is not 0. -/
theorem enc_same {l : List Int} {n X : Nat} (hX : X ≠ 0) (hX2 : X < 18446744073709551616) (h : ∀ i, 0 < i → i < n → xat l i = X) : ∀ k, k + 2 ≤ n → (encV l (k + 2)).1.length = 141 - hz X - lz X + k * (66 - hz X - lz X) ∧ (encV l (k + 2)).2 = some (hz X, lz X) := by
  have hb := hz_lz hX hX2
  intro k
  induction k with
  | zero =>
    intro hk
    rw [encV_succ l (show 0 < 1 by omega), h 1 (by omega) (by omega), encV_one, encX_new hX rfl]
    refine ⟨?_, rfl⟩
    simp only [List.length_append, putBits_length, List.length_cons, List.length_nil]
    omega
  | succ k ih =>
    intro hk
    obtain ⟨h1, h2⟩ := ih (by omega)
    rw [encV_succ l (show 0 < k + 2 by omega), h (k + 2) (by omega) (by omega), h2, encX_reuse hX ⟨Nat.le_refl _, Nat.le_refl _⟩]
    refine ⟨?_, rfl⟩
    simp only [List.length_append, putBits_length, List.length_cons, List.length_nil, h1]
    rw [Nat.add_mul]
    omega
theorem packEV_small {l : List Int} (h : l.length ≤ 120) : packEV l = 0 := by unfold packEV; rw [if_neg (by omega)]
theorem packBV_len {l : List Int} (h : l.length ≤ 120) : (packBV l).length = ((encV l l.length).1.length + 7) / 8 := by
  unfold packBV; rw [if_pos (packEV_small h), bytesOf_length]
theorem lens (a b : Int) {n : Nat} (h2 : 2 ≤ n) (hn : n ≤ 120) :
    (packBV (sl a n)).length = (70 + n) / 8 ∧ (packBV (tl a b n)).length ≤ (packBV (tl a b 2)).length + (n - 2) * 9 ∧ (70 + n) / 8 ≤ (packBV (tl a b n)).length := by
  obtain ⟨k, rfl⟩ : ∃ k, n = k + 2 := ⟨n - 2, by omega⟩
  have e1 := enc_flat (l := sl a (k + 2)) (n := k + 2) (fun i _ hi => xat_sl hi) (k + 1) (by omega)
  rw [packBV_len (by rw [sl_len]; omega), packBV_len (by rw [tl_len]; omega), packBV_len (by rw [tl_len]; omega), sl_len, tl_len, tl_len, e1]
  by_cases hX : un a ^^^ un b = 0
  · have e2 := enc_flat (l := tl a b (k + 2)) (n := k + 2) (fun i h0 hi => by rw [xat_tl h0 hi, hX]) (k + 1) (by omega)
    have e3 := enc_flat (l := tl a b 2) (n := 2) (fun i h0 hi => by rw [xat_tl h0 hi, hX]) 1 (by omega)
    rw [e2, e3]
    omega
  · have hlt : un a ^^^ un b < 18446744073709551616 := Nat.xor_lt_two_pow (n := 64) (un_lt _) (un_lt _)
    obtain ⟨e2, _⟩ := enc_same hX hlt (l := tl a b (k + 2)) (n := k + 2) (fun i h0 hi => xat_tl h0 hi) k (by omega)
    obtain ⟨e3, _⟩ := enc_same hX hlt (l := tl a b 2) (n := 2) (fun i h0 hi => xat_tl h0 hi) 0 (by omega)
    have hb := hz_lz hX hlt
    rw [show 0 + 2 = 2 by rfl] at e3
    rw [e2, e3]
    have m1 : k * (66 - hz (un a ^^^ un b) - lz (un a ^^^ un b)) ≤ k * 72 := Nat.mul_le_mul_left _ (by omega)
    have m2 : k * 1 ≤ k * (66 - hz (un a ^^^ un b) - lz (un a ^^^ un b)) := Nat.mul_le_mul_left _ (by omega)
    obtain ⟨P, hP⟩ : ∃ P, P = k * (66 - hz (un a ^^^ un b) - lz (un a ^^^ un b)) := ⟨_, rfl⟩
    rw [← hP] at m1 m2 ⊢
    omega

theorem len2 (a b : Int) : (packBV (tl a b 2)).length ≤ 1000 := by
  rw [packBV_len (by rw [tl_len]; omega)]
  have := encV_le (tl a b 2) (tl a b 2).length
  rw [tl_len] at this ⊢
  omega
theorem Try.info3 : (Try.prog.info? 3).map (fun i => (i.zero, i.size, i.bytes)) = some (some (.int .i64 0), 1, 8) := by kernel_rfl
theorem ret_bool {b : Bool} (h : b = true) : Ending.returned (.bool b) = .returned (.bool true) := by rw [h]

/-- The rows of the loop. -/
structure Two (w wr : World) (v8 v9 : Value) (a b : Int) (k : Nat) : Prop where
  s : wr.ownsRow w.heap.size 3 1 v8 k (ints (sl a k))
  t : wr.ownsRow w.heap.size 3 1 v9 k (ints (tl a b k))
  ne : ∀ x, v8.ownBlock = some x → v9.ownBlock ≠ some x
  below : Below w.heap.size w wr

theorem snoc_at (a b : Int) (k : Nat) (x : Int) : (ints (tl a b k) ++ [Value.int .i64 x])[k]? = some (.int .i64 x) := by
  have hl : (ints (tl a b k)).length = k := by simp [ints, tl_len]
  rw [List.getElem?_append_right (by omega), hl]; simp
theorem snoc_set (a b : Int) (k : Nat) (x y : Value) : (ints (tl a b k) ++ [x]).set k y = ints (tl a b k) ++ [y] := by
  have hl : (ints (tl a b k)).length = k := by simp [ints, tl_len]
  rw [List.set_append_right _ _ (by omega), hl]; simp
theorem rd_two {w : World} {B r m : Nat} {a b : Int} (h : Rd w B (some ⟨r, 0, none⟩) m (ints (tl a b m))) (hm : 2 ≤ m) : Rd w B (some ⟨r, 0, none⟩) 2 (ints (tl a b 2)) := by
  refine ⟨by simp [ints, tl_len], fun _ => ?_⟩
  obtain ⟨b', off, e, hb, hc⟩ := h.2 (by omega)
  refine ⟨b', off, e, hb, fun j u hu => hc j u ?_⟩
  have hj : j < 2 := by
    rcases Nat.lt_or_ge j 2 with h1 | h1
    · exact h1
    · rw [List.getElem?_eq_none (by simp [ints, tl_len]; omega)] at hu; cases hu
  rw [← hu]
  have e1 : ∀ n, j < n → (ints (tl a b n))[j]? = some (.int .i64 (if j % 2 = 1 then b else a)) := by
    intro n hn
    simp [ints, tl, hn]
  rw [e1 m (by omega), e1 2 hj]
theorem Two.first {w wr w2 : World} {v8 v9 v1 : Value} {a b : Int} {k : Nat} {X : Obj} (h : Two w wr v8 v9 a b k) (h1 : w2.ownsRow w.heap.size 3 1 v1 (k + 1) (ints (sl a k) ++ [.int .i64 a])) (hg : (wr.alloc X).grownBy w2 v8.ownBlock)
    (hat : v1.ownBlock = v8.ownBlock ∨ v1.ownBlock = some (wr.alloc X).heap.size) :
    w2.ownsRow w.heap.size 3 1 v9 k (ints (tl a b k)) ∧ w.heap.size ≤ w2.heap.size ∧ w2.ownsRow w.heap.size 3 1 v1 (k + 1) (ints (sl a (k + 1))) ∧ (∀ x, v1.ownBlock = some x → v9.ownBlock ≠ some x) ∧ Below w.heap.size w w2 := by
  have hk : Kp (fun k => v8.ownBlock = some k) wr w2 := ((Kp.refl _ wr).alloc _).grown hg (fun x _ h => h)
  refine ⟨own_kp h.t hk (fun x hx h8 => h.ne x h8 hx), Nat.le_trans h.below.size hk.size, ?_, ?_, ?_⟩
  · rw [sl_succ]; simpa [ints] using h1
  · intro x hx h9
    rcases hat with e | e
    · exact h.ne x (by rw [← e]; exact hx) h9
    · have := (h.t.lt x h9).2
      rw [e] at hx
      injection hx with hx
      simp at hx
      omega
  · exact (h.below.alloc h.below.size _).grown hg (by simp; exact Nat.le_trans h.below.size (by omega)) (fun x hx => (h.s.lt x hx).1)
theorem own_second {w w2 w3 : World} {v9 v1 v2 : Value} {a b : Int} {k : Nat} {X : Obj} (h1 : w2.ownsRow w.heap.size 3 1 v1 (k + 1) (ints (sl a (k + 1)))) (hne : ∀ x, v1.ownBlock = some x → v9.ownBlock ≠ some x) (hb : Below w.heap.size w w2)
    (h9 : w2.ownsRow w.heap.size 3 1 v9 k (ints (tl a b k))) (h2 : w3.ownsRow w.heap.size 3 1 v2 (k + 1) (ints (tl a b k) ++ [.int .i64 a])) (hg : (w2.alloc X).grownBy w3 v9.ownBlock)
    (hat : v2.ownBlock = v9.ownBlock ∨ v2.ownBlock = some (w2.alloc X).heap.size) :
    w3.ownsRow w.heap.size 3 1 v1 (k + 1) (ints (sl a (k + 1))) ∧ (∀ x, v1.ownBlock = some x → v2.ownBlock ≠ some x) ∧ Below w.heap.size w w3 := by
  have hk : Kp (fun k => v9.ownBlock = some k) w2 w3 := ((Kp.refl _ w2).alloc _).grown hg (fun x _ h => h)
  refine ⟨own_kp h1 hk (fun x hx h8 => hne x hx h8), ?_, ?_⟩
  · intro x hx h3
    rcases hat with e | e
    · exact hne x hx (by rw [← e]; exact h3)
    · have := (h1.lt x hx).2
      rw [e] at h3
      injection h3 with h3
      simp at h3
      omega
  · exact (hb.alloc hb.size _).grown hg (by simp; exact Nat.le_trans hb.size (by omega)) (fun x hx => (h9.lt x hx).1)

set_option maxRecDepth 100000 in
set_option maxHeartbeats 1000000 in
theorem walk (a b n : Int) (w : World) :
    Calls Try.prog 4 #[.int .i64 a, .int .i64 b, .int .i64 n] w fun e w' => e = .returned (.bool true) ∧ Below w.heap.size w w' := by
  obtain ⟨i0, hi, hz0, hz1, hz2⟩ := info_parts Try.info3
  by_cases hin : 2 ≤ n ∧ n ≤ 120
  · obtain ⟨n0, n1⟩ := hin
    obtain ⟨m, rfl⟩ := Int.eq_ofNat_of_zero_le (show 0 ≤ n by omega)
    go_enter Try.func4, Try.ntmps4
    go_wp2_with fail
    refine (alive15 w).mono ?_
    rintro e w1 ⟨rfl, hb1⟩
    go_wp2_with fail
    go_loopw [8, 9, 10] (fun v8 v9 i wr => ∃ k : Nat, k ≤ m ∧ i = .int .i64 k ∧ Hid (Two w wr v8 v9 a b k)) (fun _ _ i _ => m - (intOf i).toNat)
    case atStart => exact ⟨0, Nat.zero_le _, rfl, World.ownsRow_nil _ _ _ _, World.ownsRow_nil _ _ _ _, (fun x h => by cases h), hb1⟩
    case round =>
      obtain ⟨k, hk, rfl, HT⟩ := hrel
      by_cases hlt : k < m
      · have hsz := HT.out.below.size
        have hown := HT.out.s
        have hpar : (k : Int) % 2 = 1 ∨ (k : Int) % 2 = 0 := by omega
        rcases hpar with hpar | hpar
        · go_wp2_with (first | (at_builtin; refine wpList_append_own_at _ rfl (.tmp 34) (.tmp 36) 23 rfl w.heap.size 3 i0 (.int .i64 0) 1 8 Try.underlying23 hi hz0 hz1 hz2 rfl (by decide) _ k (ints (sl a k)) rfl (hown.alloc _) ⟨wr.heap.size, 0, none⟩ 1 1 [.int .i64 a] rfl rfl (cell_one_new wr _ 3) (by simp [Value.oneCell']) (by unfold maxLen; omega) (by omega) (by simp; omega) ?_; intro v1 w2 hown1 hg1 _ hat1; have hA := HT.out.first hown1 hg1 hat1; obtain ⟨ht2, hsz2, hA⟩ := hA; have HA := Lib.hid hA; clear hA) | (at_builtin; refine wpList_append_own_at _ rfl (.tmp 38) (.tmp 40) 23 rfl w.heap.size 3 i0 (.int .i64 0) 1 8 Try.underlying23 hi hz0 hz1 hz2 rfl (by decide) _ k (ints (tl a b k)) rfl (ht2.alloc _) ⟨w2.heap.size, 0, none⟩ 1 1 [.int .i64 a] rfl rfl (cell_one_new w2 _ 3) (by simp [Value.oneCell']) (by unfold maxLen; omega) (by omega) (by simp; omega) ?_; intro v2 w3 hown2 hg2 _ hat2; have hS := own_second HA.out.1 HA.out.2.1 HA.out.2.2 ht2 hown2 hg2 hat2; have HS := Lib.hid hS; clear hS hg2 hat2; obtain ⟨r, cap, cur, rfl, hrb, hac, hcap1, hcap2, hcur⟩ := own_form hown2 (by omega); have hc := own_cell hown2 (i := k) (u := .int .i64 a) (snoc_at a b k a); have hfz := own_frozen hown2 k; clear hcur hac))
          have HF : Hid (Two w (w3.setCell ⟨r, k, none⟩ (.int .i64 b)) v1 (.slice (some ⟨r, 0, none⟩) (k + 1) cap) a b (k + 1)) := by
            refine ⟨own_far HS.out.1 (fun h => HS.out.2.1 r h rfl) _, ?_, HS.out.2.1, HS.out.2.2.setCell hrb _⟩
            have := own_set hown2 k (.int .i64 b)
            rw [tl_succ, if_pos (by omega)]
            rw [snoc_set] at this
            simpa [ints] using this
          go_roundw
          case rel => exact ⟨k + 1, by omega, by go_num, HF⟩
          case measure => simp [intOf]; omega
        · go_wp2_with (first | (at_builtin; refine wpList_append_own_at _ rfl (.tmp 34) (.tmp 36) 23 rfl w.heap.size 3 i0 (.int .i64 0) 1 8 Try.underlying23 hi hz0 hz1 hz2 rfl (by decide) _ k (ints (sl a k)) rfl (hown.alloc _) ⟨wr.heap.size, 0, none⟩ 1 1 [.int .i64 a] rfl rfl (cell_one_new wr _ 3) (by simp [Value.oneCell']) (by unfold maxLen; omega) (by omega) (by simp; omega) ?_; intro v1 w2 hown1 hg1 _ hat1; have hA := HT.out.first hown1 hg1 hat1; obtain ⟨ht2, hsz2, hA⟩ := hA; have HA := Lib.hid hA; clear hA) | (at_builtin; refine wpList_append_own_at _ rfl (.tmp 38) (.tmp 40) 23 rfl w.heap.size 3 i0 (.int .i64 0) 1 8 Try.underlying23 hi hz0 hz1 hz2 rfl (by decide) _ k (ints (tl a b k)) rfl (ht2.alloc _) ⟨w2.heap.size, 0, none⟩ 1 1 [.int .i64 a] rfl rfl (cell_one_new w2 _ 3) (by simp [Value.oneCell']) (by unfold maxLen; omega) (by omega) (by simp; omega) ?_; intro v2 w3 hown2 hg2 _ hat2; have hS := own_second HA.out.1 HA.out.2.1 HA.out.2.2 ht2 hown2 hg2 hat2; have HS := Lib.hid hS; clear hS hg2 hat2; obtain ⟨r, cap, cur, rfl, hrb, hac, hcap1, hcap2, hcur⟩ := own_form hown2 (by omega); have hc := own_cell hown2 (i := k) (u := .int .i64 a) (snoc_at a b k a); have hfz := own_frozen hown2 k; clear hcur hac))
          have HF : Hid (Two w w3 v1 (.slice (some ⟨r, 0, none⟩) (k + 1) cap) a b (k + 1)) := by
            refine ⟨HS.out.1, ?_, HS.out.2.1, HS.out.2.2⟩
            rw [tl_succ, if_neg (by omega)]
            simpa [ints] using hown2
          go_roundw
          case rel => exact ⟨k + 1, by omega, by go_num, HF⟩
          case measure => simp [intOf]; omega
      · obtain rfl : k = m := by omega
        obtain ⟨l1, l2, l3⟩ := lens a b (n := k) (by omega) (by omega)
        have q4 := len2 a b
        obtain ⟨A, c, rfl, hr, _⟩ := Rd.of_own HT.out.s
        obtain ⟨r, cap, cur, rfl, hrb, hac, hcap1, hcap2, hcur⟩ := own_form HT.out.t (by omega)
        obtain ⟨A9, c9, e9, hr9, _⟩ := Rd.of_own HT.out.t
        injection e9 with e9 _ e9c
        subst e9 e9c
        have hp := vpack_any A k c wr.heap.size (sl a k) wr hr (Nat.le_refl _) (by omega)
        have hp9 := fun w' (h : Below wr.heap.size wr w') => vpack_any (some ⟨r, 0, none⟩) k cap wr.heap.size (tl a b k) w' (hr9.below h) h.size (by omega)
        have hp2 := fun w' (h : Below wr.heap.size wr w') => vpack_any (some ⟨r, 0, none⟩) 2 cap wr.heap.size (tl a b 2) w' ((rd_two hr9 (by omega)).below h) h.size (by omega)
        unfold VPost at hp hp9 hp2
        rw [packEV_small (show (sl a k).length ≤ 120 by rw [sl_len]; omega)] at hp
        rw [packEV_small (show (tl a b k).length ≤ 120 by rw [tl_len]; omega)] at hp9
        rw [packEV_small (show (tl a b 2).length ≤ 120 by rw [tl_len]; omega)] at hp2
        obtain ⟨L1, hL1⟩ : ∃ L, L = (packBV (sl a k)).length := ⟨_, rfl⟩
        obtain ⟨L2, hL2⟩ : ∃ L, L = (packBV (tl a b k)).length := ⟨_, rfl⟩
        obtain ⟨L3, hL3⟩ : ∃ L, L = (packBV (tl a b 2)).length := ⟨_, rfl⟩
        rw [← hL1] at l1 hp
        rw [← hL2] at l2 l3 hp9
        rw [← hL3] at l2 hp2 q4
        have q1 : 8 * L1 ≤ 70 + k ∧ 70 + k < 8 * L1 + 8 := by omega
        have q2 : L2 + 18 ≤ L3 + 9 * k := by omega
        have q3 : L1 ≤ L2 := by omega
        obtain ⟨q1, q1'⟩ := q1
        have HBB := Lib.hid HT.out.below
        clear hL1 hL2 hL3 l1 l2 l3 HT hr hr9 hac hcur hrb hcap2
        go_wp2_with fail
        refine hp.mono ?_
        rintro e w2 ⟨v, rfl, hown2, hb2⟩
        obtain ⟨A2, c2, rfl, _⟩ := Rd.of_own hown2
        clear hown2 hp
        have hp9' := hp9 _ hb2
        clear hp9
        go_wp2_with fail
        refine hp9'.mono ?_
        rintro e w3 ⟨v, rfl, hown3, hb3⟩
        obtain ⟨A3, c3, rfl, _⟩ := Rd.of_own hown3
        have hb3' := hb2.trans (hb3.mono hb2.size)
        clear hown3 hp9' hb3
        have hp2' := hp2 _ hb3'
        clear hp2
        go_wp2_with fail
        refine hp2'.mono ?_
        rintro e w4 ⟨v, rfl, hown4, hb4⟩
        obtain ⟨A4, c4, rfl, _⟩ := Rd.of_own hown4
        have hb4' := hb3'.trans (hb4.mono hb3'.size)
        have HB4 := Lib.hid (HBB.out.trans (hb4'.mono HBB.out.size))
        clear hown4 hp2' hb4 hb3' hb2 hb4'
        go_wp2_with (go_at_call 17; refine (num17 _ _).mono ?_; rintro e w' ⟨rfl, rfl⟩)
        go_ret
        exact ⟨rfl, HB4.out⟩
  · have hcase : n < 2 ∨ (2 ≤ n ∧ 120 < n) := by omega
    clear hin
    rcases hcase with h1 | ⟨h1, h2⟩
    all_goals
      go_enter Try.func4, Try.ntmps4
      go_wp2_with fail
      refine (alive15 w).mono ?_
      rintro e w1 ⟨rfl, hb1⟩
      go_wp2_with fail
      go_ret
      exact ⟨rfl, hb1⟩
set_option maxRecDepth 100000 in
theorem lifted (os : Os) (started : os.Started) (H : Type) (enc : TypeId × Value → H) :
    ReturnsInHanded {} Try.checked os 4 .any (Rows.valuesStillSpec.pre6 enc Try.prog Try.f4 Rows.valuesStillRow.domain false) (Rows.valuesStillSpec.post enc Try.prog Try.f4 false true false false) := by
  refine returnsInHanded_of_change (C := Try.checked) Try.own started (by kernel_rfl) Try.func4
    (ChangeSpec.witness6 (enc := enc) (C := Try.checked) false ⟨#[], #[.int .i64 0, .int .i64 0, .int .i64 0], []⟩ 8 (by kernel_rfl) (by kernel_rfl) (by kernel_rfl) (by kernel_rfl)) ?_
  intro W base args ds gs before hval0 hW hcnd _
  have hval : ∀ (j : Nat) t v, Try.f4.params[j]? = some t → args[j]? = some v → Value.okWide Try.prog W .any base t v := hval0
  have hW' := hW
  obtain ⟨p, q, hA0, hV, rfl, hfz, hnd⟩ := hW
  have hA : DataW.TrodAll enc Try.prog W 0 (fun _ => true) true Try.f4.params.toList args.toList ds p := hA0
  rw [Try.params4] at hA hval
  obtain ⟨v0, vs0, d0, ds0, p0, q0, hargs, rfl, rfl, h0, r0⟩ := trodAll_cons hA
  obtain ⟨v1, vs1, d1, ds1, p1, q1, rfl, rfl, rfl, h1, r1⟩ := trodAll_cons r0
  obtain ⟨v2, vs2, d2, ds2, p2, q2, rfl, rfl, rfl, h2, r2⟩ := trodAll_cons r1
  obtain ⟨rfl, rfl, rfl⟩ := trodAll_nil r2
  obtain rfl : args = #[v0, v1, v2] := by cases args; simp_all
  obtain ⟨rfl, rfl⟩ := trodVars_none hV
  obtain ⟨a0, rfl, rfl, rfl, w0⟩ := open_int Try.underlying3 (hval 0 3 v0 rfl rfl) h0
  obtain ⟨a1, rfl, rfl, rfl, w1⟩ := open_int Try.underlying3 (hval 1 3 v1 rfl rfl) h1
  obtain ⟨a2, rfl, rfl, rfl, w2⟩ := open_int Try.underlying3 (hval 2 3 v2 rfl rfl) h2
  refine (walk a0 a1 a2 W).mono fun e W' ⟨he, hb⟩ => ?_
  subst he
  exact ⟨_, rfl, law_post Try.laidOut (by kernel_rfl) rfl rfl Try.underlying4 hW' ⟨rfl, rfl, rfl⟩ hb⟩

theorem over : Rows.valuesStillRow.holds Try.pinned (OpenSpec.ofChange Rows.valuesStillSpec) :=
  OpenClaim.holds_of_wide 4 Try.f4 rfl rfl rfl rfl rfl rfl rfl ⟨rfl, rfl, rfl, rfl, rfl⟩ rfl rfl rfl rfl rfl (by kernel_rfl) Try.func4 (by kernel_rfl)
    (of_decide_eq_true (by kernel_rfl)) (by unfold Func.isWrapper; first | (rw [if_pos (by decide +kernel)]; kernel_rfl) | (rw [if_neg (by decide +kernel)]; exact ⟨rfl, rfl⟩))
    (fun os started H enc _ => lifted os started H enc)

/-- ████ THE STATEMENT ████ -/
theorem proved : Rows.ValuesStillSaid :=
  over
end Go.Proofs.Ytnbamngancchmaa.valuesStill
