/- What values.unpacker.take and get do: a difference is read, or the unpacker is bad. Conditions: at most 10^9 bytes. -/
import Derived.Test.YtnbamngancchmaaVpacks
import Derived.Test.YtnbamngancchmaaEqual
namespace Go.Proofs.Ytnbamngancchmaa
open Go.RowKit PB PV

/-- An unpacker at block u: its reader is at block g, its window's cells are hi, lo. -/
structure Uz (w : World) (u g : Nat) (A : Option Addr) (n c : Nat) (l : List Nat) (pos : Nat) (hi lo : Int) (sm bd : Bool) : Prop where
  arr : Arr w u 91 #[.int .i64 hi, .int .i64 lo, .bool sm, .pointer (some ⟨g, 0, none⟩), .bool bd]
  rd : Rdr w g A n c l pos
  lt : g < u
section
variable {w w' : World} {u g n c pos pos' : Nat} {A : Option Addr} {l : List Nat} {hi lo : Int} {sm bd : Bool}
theorem Uz.set {i : Nat} {x : Value} {hi' lo' : Int} {sm' bd' : Bool} (h : Uz w u g A n c l pos hi lo sm bd) (he : (#[Value.int .i64 hi, .int .i64 lo, .bool sm, .pointer (some ⟨g, 0, none⟩), .bool bd] : Array Value).setIfInBounds i x = #[.int .i64 hi', .int .i64 lo', .bool sm', .pointer (some ⟨g, 0, none⟩), .bool bd']) : Uz (w.setCell ⟨u, i, none⟩ x) u g A n c l pos hi' lo' sm' bd' := by
  refine ⟨?_, ?_, h.lt⟩
  · rw [← he]; exact h.arr.set i x
  · have hlt := h.lt
    exact h.rd.kp (S := fun x => x = u) (Kp.setCell (S := fun x => x = u) (p := ⟨u, i, none⟩) (Kp.refl _ w) (Or.inl rfl) x) (fun y hy => by omega)
theorem Uz.drewN (h : Uz w u g A n c l pos hi lo sm bd) (k : Nat) : Uz (w.drewN k) u g A n c l pos hi lo sm bd := ⟨h.arr.drewN k, h.rd.drewN k, h.lt⟩
theorem Uz.drew (h : Uz w u g A n c l pos hi lo sm bd) : Uz w.drew u g A n c l pos hi lo sm bd := ⟨h.arr.drew, ⟨h.rd.arr, h.rd.rd, h.rd.at_⟩, h.lt⟩
theorem Uz.kp {S : Nat → Prop} (h : Uz w u g A n c l pos hi lo sm bd) (k : Kp S w w') (hs : ∀ x, x ≤ u → ¬ S x) : Uz w' u g A n c l pos hi lo sm bd :=
  ⟨h.arr.kp k (hs u (Nat.le_refl _)), h.rd.kp k (fun x hx => hs x (by have := h.lt; omega)), h.lt⟩
theorem Uz.below (h : Uz w u g A n c l pos hi lo sm bd) (k : Below w.heap.size w w') : Uz w' u g A n c l pos hi lo sm bd :=
  h.kp (S := fun _ => False) (Kp.none_of_below k) (fun _ _ h => h)
end

theorem Kp.gu {w w' : World} {g : Nat} (h : Kp (fun x => x = g) w w') (u i : Nat) (x : Value) : Kp (fun x => x = g ∨ x = u) w (w'.setCell ⟨u, i, none⟩ x) :=
  Kp.setCell (S := fun x => x = g ∨ x = u) (p := ⟨u, i, none⟩) (h.mono fun _ _ h => Or.inl h) (Or.inl (Or.inr rfl)) x
theorem Kp.su {w w' : World} {g u : Nat} (h : Kp (fun x => x = g ∨ x = u) w w') (i : Nat) (x : Value) : Kp (fun x => x = g ∨ x = u) w (w'.setCell ⟨u, i, none⟩ x) :=
  Kp.setCell (S := fun x => x = g ∨ x = u) (p := ⟨u, i, none⟩) h (Or.inl (Or.inr rfl)) x
/-- What take does. -/
def TPost (w : World) (u g : Nat) (A : Option Addr) (n c : Nat) (l : List Nat) (pos m : Nat) (hi lo : Int) (sm bd : Bool) (e : Ending) (w' : World) : Prop :=
  ∃ (v : Int) (pos' : Nat) (bd' : Bool), e = .returned (.int .i64 v) ∧ Uz w' u g A n c l pos' hi lo sm bd' ∧ Kp (fun x => x = g ∨ x = u) w w' ∧
    ((∃ x : Nat, getAt (bitsOf l) pos m = some x ∧ v = wrap64 (x : Int) ∧ pos' = pos + m ∧ bd' = bd) ∨ (getAt (bitsOf l) pos m = none ∧ v = 0 ∧ bd' = true))

set_option maxRecDepth 100000 in
set_option maxHeartbeats 1000000 in
theorem vtake_any (u g n c pos m : Nat) (A : Option Addr) (l : List Nat) (hi lo : Int) (sm bd : Bool) (w : World) (h : Uz w u g A n c l pos hi lo sm bd) (hn : n ≤ 1000000000) (hm : m ≤ 64) (hb : ∀ x ∈ l, x < 256) :
    Calls Try.prog 52 #[.pointer (some ⟨u, 0, none⟩), .int .i64 (m : Int)] w (TPost w u g A n c l pos m hi lo sm bd) := by
  have c3 := h.arr.at_ (i := 3) rfl
  have hlt := h.lt
  have hL : (bitsOf l).length = 8 * n := by rw [bitsOf_length, h.rd.len]
  by_cases hfit : pos + m ≤ 8 * n
  · have hq := get_some g n c pos m A l w h.rd hn hm hfit hb
    have hga : getAt (bitsOf l) pos m = some (natOf (((bitsOf l).drop pos).take m)) := by unfold getAt; rw [if_pos (by rw [hL]; exact hfit)]
    obtain ⟨x, hx⟩ : ∃ x, x = natOf (((bitsOf l).drop pos).take m) := ⟨_, rfl⟩
    rw [← hx] at hga hq
    obtain ⟨v, hv⟩ : ∃ v, v = wrap64 (x : Int) := ⟨_, rfl⟩
    rw [← hv] at hq
    have HG := Lib.hid (And.intro hga hv)
    have HU := Lib.hid h
    clear h hx hga hv hL
    go_enter Try.func52, Try.ntmps52
    go_wp2_with fail
    refine hq.mono ?_
    rintro e w2 ⟨rfl, hr2, hk2⟩
    have a2 := HU.out.arr.kp hk2 (by omega)
    have c4 := a2.at_ (i := 4) rfl
    have f4 := a2.frozen 4
    have HU2 : Hid (Uz w2 u g A n c l (pos + m) hi lo sm bd) := ⟨a2, hr2, hlt⟩
    have HK2 := Lib.hid hk2
    clear hq hr2 hk2 a2
    cases bd with
    | true =>
      go_wp2_with fail
      go_ret
      exact ⟨v, pos + m, true, rfl, HU2.out.set rfl, HK2.out.gu u 4 _, Or.inl ⟨x, HG.out.1, HG.out.2, rfl, rfl⟩⟩
    | false =>
      go_wp2_with fail
      go_ret
      exact ⟨v, pos + m, false, rfl, HU2.out.set rfl, HK2.out.gu u 4 _, Or.inl ⟨x, HG.out.1, HG.out.2, rfl, rfl⟩⟩
  · have hq := get_none g n c pos m A l w h.rd hn hm (by omega)
    have hga : getAt (bitsOf l) pos m = none := by unfold getAt; rw [if_neg (by rw [hL]; exact hfit)]
    have HG := Lib.hid hga
    have HU := Lib.hid h
    clear h hga hL
    go_enter Try.func52, Try.ntmps52
    go_wp2_with fail
    refine hq.mono ?_
    rintro e w2 ⟨rfl, hr2, hk2⟩
    have a2 := HU.out.arr.kp hk2 (by omega)
    have c4 := a2.at_ (i := 4) rfl
    have f4 := a2.frozen 4
    have HU2 : Hid (Uz w2 u g A n c l pos hi lo sm bd) := ⟨a2, hr2, hlt⟩
    have HK2 := Lib.hid hk2
    clear hq hr2 hk2 a2
    cases bd with
    | true =>
      go_wp2_with fail
      go_ret
      exact ⟨0, pos, true, rfl, HU2.out.set rfl, HK2.out.gu u 4 _, Or.inr ⟨HG.out, rfl, rfl⟩⟩
    | false =>
      go_wp2_with fail
      go_ret
      exact ⟨0, pos, true, rfl, HU2.out.set rfl, HK2.out.gu u 4 _, Or.inr ⟨HG.out, rfl, rfl⟩⟩

/-! ### get -/
def WinOk (win : Option (Nat × Nat)) (hi lo : Int) (sm : Bool) : Prop := sm = win.isSome ∧ ∀ p, win = some p → hi = (p.1 : Int) ∧ lo = (p.2 : Int)
theorem natOf_lt' (l : List Bool) : natOf l < 2 ^ l.length := natOf_lt l
theorem getAt_lt {B : List Bool} {pos m x : Nat} (h : getAt B pos m = some x) : x < 2 ^ m := by
  unfold getAt at h
  split at h
  · rename_i hle
    injection h with h
    subst h
    refine Nat.lt_of_lt_of_le (natOf_lt' _) (Nat.pow_le_pow_right (by omega) ?_)
    rw [List.length_take]; omega
  · cases h
theorem getX_0 {B : List Bool} {pos : Nat} {win : Option (Nat × Nat)} (h : getAt B pos 1 = some 0) : getX B pos win = some (0, pos + 1, win) := by unfold getX; rw [h]; rfl
theorem getX_n1 {B : List Bool} {pos : Nat} {win : Option (Nat × Nat)} (h : getAt B pos 1 = none) : getX B pos win = none := by unfold getX; rw [h]; rfl
theorem getX_n2 {B : List Bool} {pos : Nat} {win : Option (Nat × Nat)} (h : getAt B pos 1 = some 1) (h2 : getAt B (pos + 1) 1 = none) : getX B pos win = none := by
  unfold getX; rw [h, Option.bind_some, if_neg (by omega), h2]; rfl
theorem getX_old {B : List Bool} {pos : Nat} {win : Option (Nat × Nat)} (h : getAt B pos 1 = some 1) (h2 : getAt B (pos + 1) 1 = some 0) :
    getX B pos win = win.bind fun w => (getAt B (pos + 2) (64 - w.1 - w.2)).map fun v => (v * 2 ^ w.2 % 18446744073709551616, pos + 2 + (64 - w.1 - w.2), win) := by
  unfold getX; rw [h, Option.bind_some, if_neg (by omega), h2, Option.bind_some, if_pos rfl]
theorem getX_n3 {B : List Bool} {pos : Nat} {win : Option (Nat × Nat)} (h : getAt B pos 1 = some 1) (h2 : getAt B (pos + 1) 1 = some 1) (h3 : getAt B (pos + 2) 5 = none) : getX B pos win = none := by
  unfold getX; rw [h, Option.bind_some, if_neg (by omega), h2, Option.bind_some, if_neg (by omega), h3]; rfl
theorem getX_n4 {B : List Bool} {pos z : Nat} {win : Option (Nat × Nat)} (h : getAt B pos 1 = some 1) (h2 : getAt B (pos + 1) 1 = some 1) (h3 : getAt B (pos + 2) 5 = some z) (h4 : getAt B (pos + 7) 6 = none) : getX B pos win = none := by
  unfold getX; rw [h, Option.bind_some, if_neg (by omega), h2, Option.bind_some, if_neg (by omega), h3, Option.bind_some, h4]; rfl
theorem getX_new {B : List Bool} {pos z m : Nat} {win : Option (Nat × Nat)} (h : getAt B pos 1 = some 1) (h2 : getAt B (pos + 1) 1 = some 1) (h3 : getAt B (pos + 2) 5 = some z) (h4 : getAt B (pos + 7) 6 = some m) :
    getX B pos win = if 63 < z + m then none else (getAt B (pos + 13) (m + 1)).map fun v => (v * 2 ^ (63 - z - m) % 18446744073709551616, pos + 13 + (m + 1), some (z, 63 - z - m)) := by
  unfold getX; rw [h, Option.bind_some, if_neg (by omega), h2, Option.bind_some, if_neg (by omega), h3, Option.bind_some, h4, Option.bind_some]
theorem wrap64_small {x : Nat} (h : x < 9223372036854775808) : wrap64 (x : Int) = (x : Int) := by unfold wrap64; omega

/-- What get answers. -/
def GPost (w : World) (u g : Nat) (A : Option Addr) (n c : Nat) (l : List Nat) (pos : Nat) (win : Option (Nat × Nat)) (bd : Bool) (e : Ending) (w' : World) : Prop :=
  ∃ (r pos' : Nat) (hi' lo' : Int) (sm' bd' : Bool), e = .returned (.int .u64 (r : Int)) ∧ r < 18446744073709551616 ∧ Uz w' u g A n c l pos' hi' lo' sm' bd' ∧ Kp (fun x => x = g ∨ x = u) w w' ∧ (bd = true → bd' = true) ∧
    (bd = false → (∃ win', getX (bitsOf l) pos win = some (r, pos', win') ∧ bd' = false ∧ WinOk win' hi' lo' sm' ∧ OkW win') ∨ (getX (bitsOf l) pos win = none ∧ bd' = true))

/-- What is known ahead of the last take. -/
structure Mid (u g : Nat) (A : Option Addr) (n c : Nat) (l : List Nat) (pos : Nat) (win : Option (Nat × Nat)) (bd : Bool) (w wq : World) (pq : Nat) (hq lq : Int) (sq bq : Bool) : Prop where
  uz : Uz wq u g A n c l pq hq lq sq bq
  kp : Kp (fun x => x = g ∨ x = u) w wq
  bad : bd = true → bq = true
  no : bd = false → (bq = true ∨ sq = false ∨ lq < 0) → getX (bitsOf l) pos win = none
  yes : bq = false → sq = true → 0 ≤ lq → ∃ a b : Nat, hq = (a : Int) ∧ lq = (b : Int) ∧ a + b ≤ 63 ∧ a ≤ 31 ∧
    getX (bitsOf l) pos win = (getAt (bitsOf l) pq (64 - a - b)).map fun v => (v * 2 ^ b % 18446744073709551616, pq + (64 - a - b), some (a, b))
theorem Mid.none {u g n c pos pq : Nat} {A : Option Addr} {l : List Nat} {win : Option (Nat × Nat)} {bd sq bq : Bool} {w wq w' : World} {hq lq : Int} (h : Mid u g A n c l pos win bd w wq pq hq lq sq bq) (hb : bq = true ∨ sq = false ∨ lq < 0)
    (hw : Uz w' u g A n c l pq hq lq sq true) (hk : Kp (fun x => x = g ∨ x = u) w w') : GPost w u g A n c l pos win bd (.returned (.int .u64 0)) w' :=
  ⟨0, pq, hq, lq, sq, true, rfl, by omega, hw, hk, fun _ => rfl, fun hf => Or.inr ⟨h.no hf hb, rfl⟩⟩
theorem mid_old {u g n c pos p2 : Nat} {A : Option Addr} {l : List Nat} {win : Option (Nat × Nat)} {bd b2 sm : Bool} {w w2 : World} {hi lo v2 : Int} (hwin : bd = false → WinOk win hi lo sm ∧ OkW win)
    (g1 : getAt (bitsOf l) pos 1 = some 1) (h2 : Uz w2 u g A n c l p2 hi lo sm b2) (k2 : Kp (fun x => x = g ∨ x = u) w w2) (hv : v2 = 0)
    (d2 : (∃ x : Nat, getAt (bitsOf l) (pos + 1) 1 = some x ∧ v2 = wrap64 (x : Int) ∧ p2 = pos + 1 + 1 ∧ b2 = bd) ∨ (getAt (bitsOf l) (pos + 1) 1 = none ∧ v2 = 0 ∧ b2 = true)) : Mid u g A n c l pos win bd w w2 p2 hi lo sm b2 := by
  subst hv
  rcases d2 with ⟨x, gx, hx, rfl, rfl⟩ | ⟨gx, _, rfl⟩
  · have hlt := getAt_lt gx
    obtain rfl : x = 0 := by
      rw [wrap64_small (by omega)] at hx; omega
    refine ⟨h2, k2, fun h => h, fun hf hc => ?_, fun hf hs hlo => ?_⟩
    · obtain ⟨⟨e1, e2⟩, hok⟩ := hwin hf
      rw [getX_old g1 gx]
      cases win with
      | none => rfl
      | some p =>
        exfalso
        rcases hc with hc | hc | hc
        · rw [hf] at hc; cases hc
        · rw [e1] at hc; cases hc
        · have := (e2 p rfl).2; omega
    · obtain ⟨⟨e1, e2⟩, hok⟩ := hwin hf
      cases win with
      | none => rw [hs] at e1; cases e1
      | some p =>
        obtain ⟨a, b⟩ := p
        have := hok _ rfl
        simp only [] at this
        exact ⟨a, b, (e2 _ rfl).1, (e2 _ rfl).2, this.1, this.2, by rw [getX_old g1 gx]; rfl⟩
  · exact ⟨h2, k2, fun _ => rfl, fun _ _ => getX_n2 g1 gx, fun hf => by cases hf⟩
theorem mid_new {u g n c pos p3 p4 : Nat} {A : Option Addr} {l : List Nat} {win : Option (Nat × Nat)} {bd b3 b4 : Bool} {w w4 : World} {v3 v4 lq : Int}
    (g1 : getAt (bitsOf l) pos 1 = some 1) (g2 : getAt (bitsOf l) (pos + 1) 1 = some 1) (h4 : Uz w4 u g A n c l p4 v3 lq true b4) (k4 : Kp (fun x => x = g ∨ x = u) w w4) (hlq : lq = 64 - v3 - (v4 + 1))
    (d3 : (∃ x : Nat, getAt (bitsOf l) (pos + 2) 5 = some x ∧ v3 = wrap64 (x : Int) ∧ p3 = pos + 2 + 5 ∧ b3 = bd) ∨ (getAt (bitsOf l) (pos + 2) 5 = none ∧ v3 = 0 ∧ b3 = true))
    (d4 : (∃ x : Nat, getAt (bitsOf l) p3 6 = some x ∧ v4 = wrap64 (x : Int) ∧ p4 = p3 + 6 ∧ b4 = b3) ∨ (getAt (bitsOf l) p3 6 = none ∧ v4 = 0 ∧ b4 = true)) : Mid u g A n c l pos win bd w w4 p4 v3 lq true b4 := by
  rcases d3 with ⟨x, gx, hx, rfl, rfl⟩ | ⟨gx, _, rfl⟩
  · have hltx := getAt_lt gx
    rw [wrap64_small (by omega)] at hx
    subst hx
    rcases d4 with ⟨y, gy, hy, rfl, rfl⟩ | ⟨gy, _, rfl⟩
    · have hlty := getAt_lt gy
      rw [wrap64_small (by omega)] at hy
      subst hy
      have e := getX_new (win := win) g1 g2 gx gy
      refine ⟨h4, k4, fun h => h, fun hf hc => ?_, fun hf _ hlo => ⟨x, 63 - x - y, rfl, by omega, by omega, by omega, ?_⟩⟩
      · rw [e, if_pos]
        rcases hc with hc | hc | hc
        · rw [hf] at hc; cases hc
        · cases hc
        · omega
      · rw [e, if_neg (by omega), show 64 - x - (63 - x - y) = y + 1 by omega]
    · exact ⟨h4, k4, fun _ => rfl, fun _ _ => getX_n4 g1 g2 gx gy, fun hf => by cases hf⟩
  · refine ⟨h4, k4, fun _ => ?_, fun _ _ => getX_n3 g1 g2 gx, fun hf => ?_⟩
    · rcases d4 with ⟨_, _, _, _, rfl⟩ | ⟨_, _, rfl⟩ <;> rfl
    · rcases d4 with ⟨_, _, _, _, rfl⟩ | ⟨_, _, rfl⟩ <;> cases hf
theorem get_bit {B : List Bool} {pos p : Nat} {v : Int} {b b' : Bool} (d : (∃ x : Nat, getAt B pos 1 = some x ∧ v = wrap64 (x : Int) ∧ p = pos + 1 ∧ b' = b) ∨ (getAt B pos 1 = none ∧ v = 0 ∧ b' = true)) : v = 0 ∨ (v = 1 ∧ getAt B pos 1 = some 1 ∧ p = pos + 1 ∧ b' = b) := by
  rcases d with ⟨x, gx, hx, rfl, rfl⟩ | ⟨_, h, _⟩
  · have hlt := getAt_lt gx
    rw [wrap64_small (by omega)] at hx
    have : x = 0 ∨ x = 1 := by omega
    rcases this with rfl | rfl
    · exact Or.inl hx
    · exact Or.inr ⟨hx, gx, rfl, rfl⟩
  · exact Or.inl h
theorem get_num {B : List Bool} {pos p m : Nat} {v : Int} {b b' : Bool} (hm : m ≤ 6) (d : (∃ x : Nat, getAt B pos m = some x ∧ v = wrap64 (x : Int) ∧ p = pos + m ∧ b' = b) ∨ (getAt B pos m = none ∧ v = 0 ∧ b' = true)) : 0 ≤ v ∧ v < 2 ^ m := by
  have hp : (0 : Int) < 2 ^ m := Int.pow_pos (by omega)
  rcases d with ⟨x, gx, hx, rfl, rfl⟩ | ⟨_, h, _⟩
  · have hlt := getAt_lt gx
    have h64 : 2 ^ m ≤ 2 ^ 6 := Nat.pow_le_pow_right (by omega) hm
    rw [wrap64_small (by omega)] at hx
    have : ((2 ^ m : Nat) : Int) = (2 : Int) ^ m := by rw [Int.natCast_pow]; rfl
    rw [← this]
    omega
  · omega

theorem take_u64 {B : List Bool} {pos p m : Nat} {v : Int} {b b' : Bool} (hm : m ≤ 64) (d : (∃ x : Nat, getAt B pos m = some x ∧ v = wrap64 (x : Int) ∧ p = pos + m ∧ b' = b) ∨ (getAt B pos m = none ∧ v = 0 ∧ b' = true)) :
    ∃ y : Nat, IntKind.u64.wrap v = (y : Int) ∧ y < 18446744073709551616 ∧ ((getAt B pos m = some y ∧ p = pos + m ∧ b' = b) ∨ (getAt B pos m = none ∧ y = 0 ∧ b' = true)) := by
  rcases d with ⟨x, gx, hx, rfl, rfl⟩ | ⟨gx, h, rfl⟩
  · have hlt := getAt_lt gx
    have h64 : 2 ^ m ≤ 2 ^ 64 := Nat.pow_le_pow_right (by omega) hm
    refine ⟨x, ?_, by omega, Or.inl ⟨gx, rfl, rfl⟩⟩
    rw [hx, u64_wrap_un]; unfold PV.un wrap64; omega
  · exact ⟨0, by rw [h]; rfl, by omega, Or.inr ⟨gx, rfl, rfl⟩⟩
theorem last_take {u g n c pos pq p6 a b s y : Nat} {A : Option Addr} {l : List Nat} {win : Option (Nat × Nat)} {bd b6 : Bool} {w w6 : World}
    (hgx : getX (bitsOf l) pos win = (getAt (bitsOf l) pq (64 - a - b)).map fun v => (v * 2 ^ b % 18446744073709551616, pq + (64 - a - b), some (a, b))) (hs : a + b + s = 64) (hab : a + b ≤ 63) (ha : a ≤ 31)
    (h6 : Uz w6 u g A n c l p6 (a : Int) (b : Int) true b6) (k6 : Kp (fun x => x = g ∨ x = u) w w6) (hbad : bd = true → false = true)
    (hd : (getAt (bitsOf l) pq s = some y ∧ p6 = pq + s ∧ b6 = false) ∨ (getAt (bitsOf l) pq s = none ∧ y = 0 ∧ b6 = true)) : GPost w u g A n c l pos win bd (.returned (.int .u64 ((y : Int) * 2 ^ b % 18446744073709551616))) w6 := by
  rw [show 64 - a - b = s by omega] at hgx
  have e : ((y : Int) * 2 ^ b % 18446744073709551616) = ((y * 2 ^ b % 18446744073709551616 : Nat) : Int) := by
    rw [Int.natCast_emod, Int.natCast_mul, Int.natCast_pow]; rfl
  rw [e]
  refine ⟨_, p6, a, b, true, b6, rfl, Nat.mod_lt _ (by omega), h6, k6, fun h => (by cases hbad h), fun _ => ?_⟩
  rcases hd with ⟨hy, rfl, rfl⟩ | ⟨hy, rfl, rfl⟩
  · exact Or.inl ⟨some (a, b), by rw [hgx, hy]; rfl, rfl, ⟨rfl, fun p hp => by injection hp with hp; subst hp; exact ⟨rfl, rfl⟩⟩, fun p hp => by injection hp with hp; subst hp; exact ⟨hab, ha⟩⟩
  · exact Or.inr ⟨by rw [hgx, hy]; rfl, rfl⟩

set_option maxRecDepth 100000 in
set_option maxHeartbeats 1000000 in
theorem vget_any (u g n c pos : Nat) (A : Option Addr) (l : List Nat) (hi lo : Int) (sm bd : Bool) (win : Option (Nat × Nat)) (w : World) (h : Uz w u g A n c l pos hi lo sm bd) (hn : n ≤ 1000000000) (hb : ∀ x ∈ l, x < 256)
    (hwin : bd = false → WinOk win hi lo sm ∧ OkW win) :
    Calls Try.prog 53 [.pointer (some ⟨u, 0, none⟩)].toArray w (GPost w u g A n c l pos win bd) := by
  have HT := Lib.hid (fun pos m hi lo sm bd w h hm => vtake_any u g n c pos m A l hi lo sm bd w h hn hm hb)
  have HWIN := Lib.hid hwin
  have hq1 := HT.out pos 1 hi lo sm bd w h (by omega)
  clear hwin h
  go_enter Try.func53, Try.ntmps53
  go_wp2_with fail
  refine hq1.mono ?_
  rintro e w1 ⟨v1, p1, b1, rfl, h1, k1, d1⟩
  clear hq1
  rcases get_bit d1 with rfl | ⟨rfl, g1, rfl, rfl⟩
  · have HR : Hid (GPost w u g A n c l pos win bd (.returned (.int .u64 0)) w1) := by
      refine ⟨0, p1, hi, lo, sm, b1, rfl, by omega, h1, k1, fun h => ?_, fun hf => ?_⟩
      · rcases d1 with ⟨_, _, _, _, rfl⟩ | ⟨_, _, rfl⟩
        · exact h
        · rfl
      · rcases d1 with ⟨x, gx, hx, rfl, rfl⟩ | ⟨gx, _, rfl⟩
        · have hlt := getAt_lt gx
          obtain rfl : x = 0 := by rw [wrap64_small (by omega)] at hx; omega
          exact Or.inl ⟨win, getX_0 gx, hf, (HWIN.out hf).1, (HWIN.out hf).2⟩
        · exact Or.inr ⟨getX_n1 gx, rfl⟩
    clear d1 h1 k1
    go_wp2_with fail
    go_ret
    exact HR.out
  · have HG1 := Lib.hid g1
    have HK1 := Lib.hid k1
    have hq2 := HT.out (pos + 1) 1 hi lo sm b1 w1 h1 (by omega)
    clear d1 g1 k1 h1
    go_wp2_with fail
    refine hq2.mono ?_
    rintro e w2 ⟨v2, p2, b2, rfl, h2, k2, d2⟩
    clear hq2
    have hv := get_bit d2
    rcases hv with rfl | ⟨rfl, g2, rfl, rfl⟩
    · have HM : Hid (Mid u g A n c l pos win b1 w w2 p2 hi lo sm b2) := mid_old HWIN.out HG1.out h2 (HK1.out.trans k2 (fun _ _ h => h)) rfl d2
      have c0 := h2.arr.at_ (i := 0) rfl
      have c1 := h2.arr.at_ (i := 1) rfl
      have c2 := h2.arr.at_ (i := 2) rfl
      have c4 := h2.arr.at_ (i := 4) rfl
      have f4 := h2.arr.frozen 4
      clear d2 h2 k2
      have H4 : b2 = true ∨ (b2 = false ∧ sm = false) ∨ (b2 = false ∧ sm = true ∧ lo < 0) ∨ (b2 = false ∧ sm = true ∧ 0 ≤ lo) := by
        cases b2 <;> cases sm <;> simp <;> omega
      rcases H4 with rfl | ⟨rfl, rfl⟩ | ⟨rfl, rfl, hlo⟩ | ⟨rfl, rfl, hlo⟩
      · go_wp2_with fail
        go_ret
        exact HM.out.none (Or.inl rfl) (HM.out.uz.set (i := 4) (x := .bool true) rfl) (HM.out.kp.su 4 _)
      · go_wp2_with fail
        go_ret
        exact HM.out.none (Or.inr (Or.inl rfl)) (HM.out.uz.set (i := 4) (x := .bool true) rfl) (HM.out.kp.su 4 _)
      · go_wp2_with fail
        go_ret
        exact HM.out.none (Or.inr (Or.inr hlo)) (HM.out.uz.set (i := 4) (x := .bool true) rfl) (HM.out.kp.su 4 _)
      · obtain ⟨a, b, rfl, rfl, hab, ha, hgx⟩ := HM.out.yes rfl rfl hlo
        have HGX := Lib.hid hgx
        clear hgx
        go_wp2_with fail
        obtain ⟨wq, hwq⟩ : ∃ wq, wq = w2.setCell ⟨u, 4, none⟩ (.bool (decide ((b : Int) < 0))) := ⟨_, rfl⟩
        have HUQ : Hid (Uz wq u g A n c l p2 (a : Int) (b : Int) true false) := by rw [hwq, decide_eq_false (show ¬ (b : Int) < 0 by omega)]; exact HM.out.uz.set (i := 4) (x := .bool false) rfl
        have HKQ : Hid (Kp (fun x => x = g ∨ x = u) w wq) := by rw [hwq]; exact HM.out.kp.su 4 _
        rw [← hwq]
        clear hwq c0 c1 c2 c4 f4
        obtain ⟨pq, hpq⟩ : ∃ q, q = p2 := ⟨_, rfl⟩
        rw [← hpq] at HUQ HGX
        clear hpq
        have ca := HUQ.out.arr.at_ (i := 0) rfl
        have cb := HUQ.out.arr.at_ (i := 1) rfl
        have hul := HUQ.out.arr.lt
        obtain ⟨s, hs⟩ : ∃ s, a + b + s = 64 := ⟨64 - a - b, by omega⟩
        have hsz := fun w => vsizeN_any a b s w hs
        have hkeep : ∀ {w' : World}, Below wq.drew.heap.size wq.drew w' → w'.cell? ⟨u, 0, none⟩ = some (.int .i64 a) ∧ w'.cell? ⟨u, 1, none⟩ = some (.int .i64 b) :=
          fun h => ⟨(h.cell (p := ⟨u, 0, none⟩) hul).trans ca, (h.cell (p := ⟨u, 1, none⟩) hul).trans cb⟩
        go_region_held3 (fun w' => w'.cell? ⟨u, 0, none⟩ = some (.int .i64 a) ∧ w'.cell? ⟨u, 1, none⟩ = some (.int .i64 b)) (first | go_keep | exact hkeep hb5 | exact ⟨h6.arr.at_ (i := 0) rfl, h6.arr.at_ (i := 1) rfl⟩) (first | (go_at_call 70; refine (hsz _).mono ?_; rintro r5 w5 ⟨rfl, hb5⟩) | (go_at_call 52; have h5 := HUQ.out.drew.below hb5; have hq5 := HT.out pq s a b true false w5 h5 (by omega); refine hq5.mono ?_; rintro r6 w6 ⟨v6, p6, b6, rfl, h6, k6, d6⟩; obtain ⟨y, hy, hylt, hd⟩ := take_u64 (by omega) d6))
        all_goals
          have HF : Hid (GPost w u g A n c l pos win b1 (.returned (.int .u64 ((y : Int) * 2 ^ b % 18446744073709551616))) w6) := last_take HGX.out hs hab ha h6 (HKQ.out.drew.trans ((Kp.none_of_below (S := fun x => x = g ∨ x = u) hb5).trans k6 (fun _ _ h => h)) (fun _ _ h => h)) HM.out.bad hd
          clear hq5 h5 d6 hb5 k6 h6 hd
          go_wp2_with fail
          go_ret
          exact HF.out
    · have HG2 := Lib.hid g2
      have HK2 := Lib.hid (HK1.out.trans k2 (fun _ _ h => h))
      have hq3 := HT.out (pos + 1 + 1) 5 hi lo sm b2 w2 h2 (by omega)
      clear d2 g2 k2 h2
      go_wp2_with fail
      refine hq3.mono ?_
      rintro e w3 ⟨v3, p3, b3, rfl, h3, k3, d3⟩
      clear hq3
      obtain ⟨r3, r3'⟩ := get_num (by omega) d3
      have hq4 := HT.out p3 6 hi lo sm b3 w3 h3 (by omega)
      have HD3 := Lib.hid d3
      have HK3 := Lib.hid (HK2.out.trans k3 (fun _ _ h => h))
      clear k3 h3 d3
      go_wp2_with fail
      refine hq4.mono ?_
      rintro e w4 ⟨v4, p4, b4, rfl, h4, k4, d4⟩
      clear hq4
      obtain ⟨r4, r4'⟩ := get_num (by omega) d4
      have HD4 := Lib.hid d4
      have HK4 := Lib.hid (HK3.out.trans k4 (fun _ _ h => h))
      have c0 := h4.arr.at_ (i := 0) rfl
      have c1 := h4.arr.at_ (i := 1) rfl
      have c2 := h4.arr.at_ (i := 2) rfl
      have c4 := h4.arr.at_ (i := 4) rfl
      have f0 := h4.arr.frozen 0
      have f1 := h4.arr.frozen 1
      have f2 := h4.arr.frozen 2
      have f4 := h4.arr.frozen 4
      have HU4 := Lib.hid h4
      clear k4 h4 d4
      have H4 : b4 = true ∨ (b4 = false ∧ 64 - v3 - (v4 + 1) < 0) ∨ (b4 = false ∧ 0 ≤ 64 - v3 - (v4 + 1)) := by
        cases b4 <;> simp <;> omega
      rcases H4 with rfl | ⟨rfl, hlo⟩ | ⟨rfl, hlo⟩
      · have HM : Hid (Mid u g A n c l pos win b2 w ((((w4.setCell ⟨u, 0, none⟩ (.int .i64 v3)).setCell ⟨u, 1, none⟩ (.int .i64 (64 - v3 - (v4 + 1)))).setCell ⟨u, 2, none⟩ (.bool true))) p4 v3 (64 - v3 - (v4 + 1)) true true) :=
          mid_new HG1.out HG2.out (((HU4.out.set (i := 0) (x := .int .i64 v3) rfl).set (i := 1) (x := .int .i64 (64 - v3 - (v4 + 1))) rfl).set (i := 2) (x := .bool true) rfl) (((HK4.out.su 0 _).su 1 _).su 2 _) rfl HD3.out HD4.out
        go_wp2_with fail
        go_ret
        exact HM.out.none (Or.inl rfl) (HM.out.uz.set (i := 4) (x := .bool true) rfl) (HM.out.kp.su 4 _)
      · have HM : Hid (Mid u g A n c l pos win b2 w ((((w4.setCell ⟨u, 0, none⟩ (.int .i64 v3)).setCell ⟨u, 1, none⟩ (.int .i64 (64 - v3 - (v4 + 1)))).setCell ⟨u, 2, none⟩ (.bool true))) p4 v3 (64 - v3 - (v4 + 1)) true false) :=
          mid_new HG1.out HG2.out (((HU4.out.set (i := 0) (x := .int .i64 v3) rfl).set (i := 1) (x := .int .i64 (64 - v3 - (v4 + 1))) rfl).set (i := 2) (x := .bool true) rfl) (((HK4.out.su 0 _).su 1 _).su 2 _) rfl HD3.out HD4.out
        go_wp2_with fail
        go_ret
        exact HM.out.none (Or.inr (Or.inr hlo)) (HM.out.uz.set (i := 4) (x := .bool true) rfl) (HM.out.kp.su 4 _)
      · have HM : Hid (Mid u g A n c l pos win b2 w ((((w4.setCell ⟨u, 0, none⟩ (.int .i64 v3)).setCell ⟨u, 1, none⟩ (.int .i64 (64 - v3 - (v4 + 1)))).setCell ⟨u, 2, none⟩ (.bool true))) p4 v3 (64 - v3 - (v4 + 1)) true false) :=
          mid_new HG1.out HG2.out (((HU4.out.set (i := 0) (x := .int .i64 v3) rfl).set (i := 1) (x := .int .i64 (64 - v3 - (v4 + 1))) rfl).set (i := 2) (x := .bool true) rfl) (((HK4.out.su 0 _).su 1 _).su 2 _) rfl HD3.out HD4.out
        obtain ⟨a, b, rfl, ea, hab, ha, hgx⟩ := HM.out.yes rfl rfl hlo
        have HGX := Lib.hid hgx
        clear hgx
        have HEA := Lib.hid ea
        clear ea
        go_wp2_with fail
        obtain ⟨wq, hwq⟩ : ∃ wq, wq = (((w4.setCell ⟨u, 0, none⟩ (.int .i64 (a : Int))).setCell ⟨u, 1, none⟩ (.int .i64 (64 - (a : Int) - (v4 + 1)))).setCell ⟨u, 2, none⟩ (.bool true)).setCell ⟨u, 4, none⟩ (.bool (decide (64 - (a : Int) - (v4 + 1) < 0))) := ⟨_, rfl⟩
        have HUQ : Hid (Uz wq u g A n c l p4 (a : Int) (b : Int) true false) := by rw [hwq, decide_eq_false (show ¬ 64 - (a : Int) - (v4 + 1) < 0 by omega), ← HEA.out]; exact HM.out.uz.set (i := 4) (x := .bool false) rfl
        have HKQ : Hid (Kp (fun x => x = g ∨ x = u) w wq) := by rw [hwq]; exact HM.out.kp.su 4 _
        rw [← hwq]
        clear hwq c0 c1 c2 c4 f4 f0 f1 f2
        obtain ⟨pq, hpq⟩ : ∃ q, q = p4 := ⟨_, rfl⟩
        rw [← hpq] at HUQ HGX
        clear hpq
        have ca := HUQ.out.arr.at_ (i := 0) rfl
        have cb := HUQ.out.arr.at_ (i := 1) rfl
        have hul := HUQ.out.arr.lt
        obtain ⟨s, hs⟩ : ∃ s, a + b + s = 64 := ⟨64 - a - b, by omega⟩
        have hsz := fun w => vsizeN_any a b s w hs
        have hkeep : ∀ {w' : World}, Below wq.drew.heap.size wq.drew w' → w'.cell? ⟨u, 0, none⟩ = some (.int .i64 a) ∧ w'.cell? ⟨u, 1, none⟩ = some (.int .i64 b) :=
          fun h => ⟨(h.cell (p := ⟨u, 0, none⟩) hul).trans ca, (h.cell (p := ⟨u, 1, none⟩) hul).trans cb⟩
        go_region_held3 (fun w' => w'.cell? ⟨u, 0, none⟩ = some (.int .i64 a) ∧ w'.cell? ⟨u, 1, none⟩ = some (.int .i64 b)) (first | go_keep | exact hkeep hb5 | exact ⟨h6.arr.at_ (i := 0) rfl, h6.arr.at_ (i := 1) rfl⟩) (first | (go_at_call 70; refine (hsz _).mono ?_; rintro r5 w5 ⟨rfl, hb5⟩) | (go_at_call 52; have h5 := HUQ.out.drew.below hb5; have hq5 := HT.out pq s a b true false w5 h5 (by omega); refine hq5.mono ?_; rintro r6 w6 ⟨v6, p6, b6, rfl, h6, k6, d6⟩; obtain ⟨y, hy, hylt, hd⟩ := take_u64 (by omega) d6))
        all_goals
          have HF : Hid (GPost w u g A n c l pos win b2 (.returned (.int .u64 ((y : Int) * 2 ^ b % 18446744073709551616))) w6) := last_take HGX.out hs hab ha h6 (HKQ.out.drew.trans ((Kp.none_of_below (S := fun x => x = g ∨ x = u) hb5).trans k6 (fun _ _ h => h)) (fun _ _ h => h)) HM.out.bad hd
          clear hq5 h5 d6 hb5 k6 h6 hd
          go_wp2_with fail
          go_ret
          exact HF.out
end Go.Proofs.Ytnbamngancchmaa
