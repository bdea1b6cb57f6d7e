/- What lysimeterref4.ReadValues answers: the same as values.Unpack. Conditions: at most 10^5 bytes, each below 256. -/
import Derived.Test.YtnbamngancchmaaRefRead
import Derived.Test.YtnbamngancchmaaRefValues
namespace Go.Proofs.Ytnbamngancchmaa
open Go.RowKit PB PV

theorem Rs.get_some {w wr : World} {g N c pos k n x : Nat} {A : Option Addr} {bs : List Bool} {v : Value} {xs : List Value} {V : Int} (hs : Rs w wr g A N c bs pos k v xs) (hN : N ≤ 1000000) (hm : n ≤ 64) (hget : getAt bs pos n = some x) (hV : wrap64 (x : Int) = V) :
    Calls Try.prog 50 #[.pointer (some ⟨g, 0, none⟩), .int .i64 (n : Int)] wr fun r w2 => r = .returned (.tuple #[.int .i64 V, .int .i64 0]) ∧ Rs w w2 g A N c bs (pos + n) k v xs := by
  refine (rget_any g N c pos n A bs wr hs.rr hN hm).mono ?_
  rintro e w2 hp
  have hs2 := hs.get hp
  have h1 := hp.1
  unfold rgetP at hs2
  unfold rgetV rgetE at h1
  rw [hget] at hs2 h1
  simp only [Option.isSome_some, if_true] at hs2 h1
  rw [hV] at h1
  exact ⟨h1, hs2⟩
theorem Rs.get_none {w wr : World} {g N c pos k n : Nat} {A : Option Addr} {bs : List Bool} {v : Value} {xs : List Value} (hs : Rs w wr g A N c bs pos k v xs) (hN : N ≤ 1000000) (hm : n ≤ 64) (hget : getAt bs pos n = none) :
    Calls Try.prog 50 #[.pointer (some ⟨g, 0, none⟩), .int .i64 (n : Int)] wr fun r w2 => r = .returned (.tuple #[.int .i64 0, .int .i64 5]) ∧ Rs w w2 g A N c bs pos k v xs := by
  refine (rget_any g N c pos n A bs wr hs.rr hN hm).mono ?_
  rintro e w2 hp
  have hs2 := hs.get hp
  have h1 := hp.1
  unfold rgetP at hs2
  unfold rgetV rgetE at h1
  rw [hget] at hs2 h1
  simp only [Option.isSome_none, Bool.false_eq_true, if_false] at hs2 h1
  exact ⟨h1, hs2⟩
theorem runV_first' {w0 win : Option (Nat × Nat)} {B : List Bool} {p x : Nat} {L : List Int} (h : runV w0 B 0 = some (p, L, win)) (hg : getAt B p 64 = some x) : runV w0 B (0 + 1) = some (p + 64, L ++ [wrap64 (x : Int)], win) := by
  have e : runV w0 B (0 + 1) = (runV w0 B 0).bind fun s => (getAt B s.1 64).map fun (v : Nat) => (s.1 + 64, s.2.1 ++ [wrap64 (v : Int)], s.2.2) := rfl
  rw [e, h, Option.bind_some, hg]; rfl
theorem runV_first_none {w0 win : Option (Nat × Nat)} {B : List Bool} {p : Nat} {L : List Int} (h : runV w0 B 0 = some (p, L, win)) (hg : getAt B p 64 = none) : runV w0 B (0 + 1) = none := by
  have e : runV w0 B (0 + 1) = (runV w0 B 0).bind fun s => (getAt B s.1 64).map fun (v : Nat) => (s.1 + 64, s.2.1 ++ [wrap64 (v : Int)], s.2.2) := rfl
  rw [e, h, Option.bind_some, hg]; rfl
theorem runV_next {w0 win win2 : Option (Nat × Nat)} {B : List Bool} {k p q x : Nat} {L : List Int} (hk : 0 < k) (h : runV w0 B k = some (p, L, win)) (hg : getX B p win = some (x, q, win2)) :
    runV w0 B (k + 1) = some (q, L ++ [wrap64 ((un (L.getD (k - 1) 0) ^^^ x : Nat) : Int)], win2) := by
  simp only [runV, h, Option.bind_some]
  rw [if_neg (by omega), hg]; rfl
theorem runV_next_none {w0 win : Option (Nat × Nat)} {B : List Bool} {k p : Nat} {L : List Int} (hk : 0 < k) (h : runV w0 B k = some (p, L, win)) (hg : getX B p win = none) : runV w0 B (k + 1) = none := by
  simp only [runV, h, Option.bind_some]
  rw [if_neg (by omega), hg]; rfl
theorem unpackV_fail {w0 : Option (Nat × Nat)} {l : List Nat} {k M : Nat} (h : runV w0 (bitsOf l) k = none) (hk : k ≤ M) : unpackV none l M = none := by
  rw [unpackV_any none w0]
  unfold unpackV; rw [runV_none h hk]; rfl
theorem u64_back {x : Nat} (h : x < 18446744073709551616) : IntKind.u64.wrap (wrap64 (x : Int)) = (x : Int) := by
  rw [u64_wrap_un]; unfold PV.un wrap64; omega
theorem xor_shl (y : Int) (x b : Nat) : bits .xor .u64 (IntKind.u64.wrap y) (IntKind.u64.wrap ((x : Int) * 2 ^ b)) = ((PV.un y ^^^ (x * 2 ^ b % 18446744073709551616) : Nat) : Int) := by
  have e : IntKind.u64.wrap ((x : Int) * 2 ^ b) = ((x * 2 ^ b % 18446744073709551616 : Nat) : Int) := by
    rw [show ∀ v : Int, IntKind.u64.wrap v = v % 18446744073709551616 from fun v => by simp [IntKind.wrap, IntKind.bits, IntKind.signed], Int.natCast_emod, Int.natCast_mul, Int.natCast_pow]; rfl
  rw [e]
  exact xor_un y _ (Nat.mod_lt _ (by omega))

set_option maxRecDepth 100000 in
set_option maxHeartbeats 4000000 in
theorem rreadv_any (A : Option Addr) (n c B : Nat) (m : Int) (l : List Nat) (w : World) (hr : Rd w B A n (l.map bv)) (hB : B ≤ w.heap.size) (hn : n ≤ 100000) (hb : ∀ x ∈ l, x < 256) :
    Calls Try.prog 24 #[.slice A n c, .int .i64 m] w (UVPost w l m) := by
  obtain ⟨i0, hi, hz0, hz1, hz2⟩ := info_parts Try.vinfo3
  by_cases h120 : 120 < m
  · have HE : Hid (unpackVE l m = 2 ∧ unpackVL l m = []) := ⟨by unfold unpackVE; rw [if_pos h120], by unfold unpackVL; rw [if_pos h120]⟩
    go_enter Try.func24, Try.ntmps24
    go_wp2_with fail
    go_ret2
    exact ⟨.slice none 0 0, by rw [HE.out.1]; rfl, by rw [HE.out.2]; exact World.ownsRow_nil _ _ _ _, Below.refl _ _⟩
  · by_cases hneg : m < 0
    · have HE : Hid (unpackVE l m = 1 ∧ unpackVL l m = []) := ⟨by unfold unpackVE; rw [if_neg h120, if_pos hneg], by unfold unpackVL; rw [if_neg h120, if_pos hneg]⟩
      go_enter Try.func24, Try.ntmps24
      go_wp2_with fail
      go_ret2
      exact ⟨.slice none 0 0, by rw [HE.out.1]; rfl, by rw [HE.out.2]; exact World.ownsRow_nil _ _ _ _, Below.refl _ _⟩
    · obtain ⟨M, rfl⟩ := Int.eq_ofNat_of_zero_le (show 0 ≤ m by omega)
      have HM : Hid (unpackVE l M = (if (unpackV none l M).isSome then 0 else 5) ∧ unpackVL l M = (unpackV none l M).getD []) := by
        refine ⟨?_, ?_⟩
        · unfold unpackVE; rw [if_neg h120, if_neg hneg, Int.toNat_natCast]
        · unfold unpackVL; rw [if_neg h120, if_neg hneg, Int.toNat_natCast]
      have HBY : Hid (∀ x ∈ l, x < 256) := hb
      have HLL := Lib.hid hr.blen
      have hof := rof_any A n c B l w hr hB hn hb
      have hM : M ≤ 120 := by omega
      have HRD := Lib.hid hr
      clear hb h120 hneg hr
      go_enter Try.func24, Try.ntmps24
      go_wp2_with fail
      refine hof.mono ?_
      rintro e w1 ⟨v1, rfl, hown1, hb1⟩
      obtain ⟨A1, c1, rfl, hrd1, _⟩ := Rd.of_own hown1
      obtain ⟨g, hg⟩ : ∃ g, g = w1.heap.size := ⟨_, rfl⟩
      have hs0 : Rs w (w1.alloc (.cells #[.slice A1 (8 * n) c1, .int .i64 0] 84)) g A1 (8 * n) c1 (bitsOf l) 0 0 (.slice none 0 0) (ints []) := by
        subst hg
        exact ⟨⟨Arr.new _ _ _, hrd1.keep fun x hx => Below.heap_alloc w1 _ x hx, Nat.zero_le _⟩, World.ownsRow_nil _ _ _ _, hb1.alloc hb1.size _, hb1.size⟩
      obtain ⟨N, hN⟩ : ∃ N, N = 8 * n := ⟨_, rfl⟩
      rw [← hN] at hs0 ⊢
      have hNb : N ≤ 1000000 := by omega
      have HS0 := Lib.hid hs0
      clear hs0 hrd1 hown1 hN hof
      go_wp2_with fail
      rw [← hg]
      clear hg
      go_loopw [7, 8, 9, 10] (fun v z t i wr => ∃ (k pos a b : Nat) (L : List Int), k ≤ M ∧ i = .int .i64 k ∧ z = .int .i64 a ∧ t = .int .i64 b ∧ a + b ≤ 63 ∧ Hid (runV (some (0, 0)) (bitsOf l) k = some (pos, L, some (a, b))) ∧ Rs w wr g A1 N c1 (bitsOf l) pos k v (ints L)) (fun _ _ _ i _ => M - (intOf i).toNat)
      case atStart => exact ⟨0, 0, 0, 0, [], Nat.zero_le _, rfl, rfl, rfl, by omega, rfl, HS0.out⟩
      case round =>
        obtain ⟨k, pos, a, b, L, hk, rfl, rfl, rfl, hab, HRUN, hs⟩ := hrel
        by_cases hlt : k < M
        · rcases Nat.eq_zero_or_pos k with h0 | h0
          · subst h0
            cases hget : getAt (bitsOf l) pos 64 with
            | none =>
              have hq := hs.get_none hNb (by omega) hget
              have HF := Lib.hid (unpackV_fail (runV_first_none HRUN.out hget) (show 0 + 1 ≤ M by omega))
              clear hget
              go_wp2_with fail
              refine hq.mono ?_
              rintro e w2 ⟨rfl, hs2⟩
              have HB := Lib.hid hs2.bel
              clear hs2 hs hq
              go_wp2_with fail
              go_ret2
              exact uv_no HM.out HF.out HB.out
            | some v =>
              have hq := hs.get_some hNb (by omega) hget rfl
              have HR := Lib.hid (runV_first' HRUN.out hget)
              obtain ⟨V, hV⟩ : ∃ V, V = wrap64 (v : Int) := ⟨_, rfl⟩
              rw [← hV] at hq
              have HV := Lib.hid hV
              clear hget hV
              go_wp2_with fail
              refine hq.mono ?_
              rintro e w2 ⟨rfl, hs2⟩
              have hgl := hs2.rr.arr.lt
              clear hq hs
              go_wp2_with (at_builtin; refine wpList_append_lies _ rfl (.tmp 45) (.tmp 47) 23 rfl (g + 1) 3 i0 (.int .i64 0) 1 8 Try.underlying23 hi hz0 hz1 hz2 rfl (by decide) u7 0 (ints L) rfl (hs2.own.alloc _) ⟨w2.heap.size, 0, none⟩ 1 1 [.int .i64 V] rfl rfl (cell_one_new w2 _ 3) (by simp [Value.oneCell']) (by omega) (by unfold maxLen; omega) (by omega) (by simp; omega) (w2.heap.size + 1) (by simp) ?_; intro r cap w3 hown3 hg3 hat3 hlt3)
              have HS3 := Lib.hid ((hs2.alloc _).grow hg3 hown3)
              clear hown3 hg3 hat3 hlt3 hs2
              go_wp2_with fail
              go_roundw
              case rel => exact ⟨1, pos + 64, a, b, L ++ [V], by omega, by go_num, rfl, rfl, hab, by rw [HV.out]; exact HR, by simpa [ints] using HS3.out⟩
              case measure => simp [intOf]; omega
          · have hLl : L.length = k := by have := hs.own.1; simpa [ints] using this
            have HK := Lib.hid h0
            have hk1 : 0 ≤ (k : Int) - 1 := by omega
            have hk2 : 1 ≤ (k : Int) := by omega
            obtain ⟨r, cap, cur, rfl, _⟩ := own_form hs.own h0
            obtain ⟨y, hy⟩ : ∃ y, y = L.getD (k - 1) 0 := ⟨_, rfl⟩
            have HY := Lib.hid hy
            have HL := Lib.hid hLl
            have HCX : Hid (∀ (w' : World) (p : Nat), Rs w w' g A1 N c1 (bitsOf l) p k (.slice (some ⟨r, 0, none⟩) k cap) (ints L) → w'.cell? ⟨r, k - 1, none⟩ = some (.int .i64 y)) := fun _ _ h => own_cell h.own (by rw [HY.out]; have := HL.out; simp [ints, List.getD, show k - 1 < L.length by omega])
            clear hy hLl
            have hbit : getAt (bitsOf l) pos 1 = none ∨ getAt (bitsOf l) pos 1 = some 0 ∨ getAt (bitsOf l) pos 1 = some 1 := by
              cases h : getAt (bitsOf l) pos 1 with
              | none => exact Or.inl rfl
              | some x =>
                have := getAt_lt h
                obtain rfl | rfl : x = 0 ∨ x = 1 := by omega
                · exact Or.inr (Or.inl rfl)
                · exact Or.inr (Or.inr rfl)
            rcases hbit with g1 | g1 | g1
            · have HF := Lib.hid (unpackV_fail (runV_next_none HK.out HRUN.out (getX_n1 g1)) (show k + 1 ≤ M by omega))
              have hq := hs.get_none hNb (by omega) g1
              go_wp2_with fail
              refine hq.mono ?_
              rintro e w2 ⟨rfl, hs2⟩
              clear hq hs
              clear g1
              have HB := Lib.hid hs2.bel
              clear hs2
              go_wp2_with fail
              go_ret2
              exact uv_no HM.out HF.out HB.out
            · have HR : Hid (runV (some (0, 0)) (bitsOf l) (k + 1) = some (pos + 1, L ++ [y], some (a, b))) := by
                show _ = _
                rw [runV_next HK.out HRUN.out (getX_0 g1), Nat.xor_zero, ← HY.out, sg_un (by have h := runV_in HRUN.out (k - 1); simp only [] at h; rw [← HY.out] at h; exact h)]
              have hq := hs.get_some hNb (by omega) g1 (V := 0) (by unfold wrap64; omega)
              clear g1
              go_wp2_with fail
              refine hq.mono ?_
              rintro e w2 ⟨rfl, hs2⟩
              clear hq hs
              have hs := hs2
              clear hs2
              have hcx := HCX.out _ _ hs
              have hgl := hs.rr.arr.lt
              have hown := hs.own
              go_wp2_with (at_builtin; refine wpList_append_lies _ rfl (.tmp 58) (.tmp 64) 23 rfl (g + 1) 3 i0 (.int .i64 0) 1 8 Try.underlying23 hi hz0 hz1 hz2 rfl (by decide) (.slice (some ⟨r, 0, none⟩) k cap) k (ints L) rfl (hown.alloc _) ⟨w2.heap.size, 0, none⟩ 1 1 [.int .i64 y] rfl rfl (cell_one_new w2 _ 3) (by simp [Value.oneCell']) (by omega) (by unfold maxLen; omega) (by omega) (by simp; omega) (w2.heap.size + 1) (by simp) ?_; intro r2 cap2 w9 hown9 hg9 hat9 hlt9)
              have HS9 := Lib.hid ((hs.alloc _).grow hg9 hown9)
              clear hown9 hg9 hat9 hlt9 hs hown hcx
              go_wp2_with fail
              go_roundw
              case rel => exact ⟨k + 1, pos + 1, a, b, L ++ [y], by omega, by go_num, rfl, rfl, hab, HR, by simpa [ints] using HS9.out⟩
              case measure => simp [intOf]; omega
            · have HG1 := Lib.hid g1
              have hq := hs.get_some hNb (by omega) g1 (V := 1) (by unfold wrap64; omega)
              clear g1
              go_wp2_with fail
              refine hq.mono ?_
              rintro e w2 ⟨rfl, hs2⟩
              clear hq hs
              have hs := hs2
              clear hs2
              have hbit : getAt (bitsOf l) (pos + 1) 1 = none ∨ getAt (bitsOf l) (pos + 1) 1 = some 0 ∨ getAt (bitsOf l) (pos + 1) 1 = some 1 := by
                cases h : getAt (bitsOf l) (pos + 1) 1 with
                | none => exact Or.inl rfl
                | some x =>
                  have := getAt_lt h
                  obtain rfl | rfl : x = 0 ∨ x = 1 := by omega
                  · exact Or.inr (Or.inl rfl)
                  · exact Or.inr (Or.inr rfl)
              rcases hbit with g2 | g2 | g2
              · have HF := Lib.hid (unpackV_fail (runV_next_none HK.out HRUN.out (getX_n2 HG1.out g2)) (show k + 1 ≤ M by omega))
                have hq := hs.get_none hNb (by omega) g2
                go_wp2_with fail
                refine hq.mono ?_
                rintro e w3 ⟨rfl, hs3⟩
                clear hq hs
                clear g2
                have HB := Lib.hid hs3.bel
                clear hs3
                go_wp2_with fail
                go_ret2
                exact uv_no HM.out HF.out HB.out
              · have HGX : Hid (getX (bitsOf l) pos (some (a, b)) = (getAt (bitsOf l) (pos + 2) (64 - a - b)).map fun v => (v * 2 ^ b % 18446744073709551616, pos + 2 + (64 - a - b), some (a, b))) := by
                  show _ = _
                  rw [getX_old HG1.out g2]; rfl
                have hq := hs.get_some hNb (by omega) g2 (V := 0) (by unfold wrap64; omega)
                rw [show pos + 1 + 1 = pos + 2 by omega] at hq
                clear g2
                go_wp2_with fail
                refine hq.mono ?_
                rintro e w3 ⟨rfl, hs3⟩
                clear hq hs
                have hs := hs3
                clear hs3
                obtain ⟨s, hs64⟩ : ∃ s, a + b + s = 64 := ⟨64 - a - b, by omega⟩
                have hsz : (64 : Int) - a - b = (s : Int) := by omega
                cases g9 : getAt (bitsOf l) (pos + 2) s with
                | none =>
                  have HF := Lib.hid (unpackV_fail (runV_next_none HK.out HRUN.out (by rw [HGX.out, show 64 - a - b = s by omega, g9]; rfl)) (show k + 1 ≤ M by omega))
                  have hq := hs.get_none hNb (by omega) g9
                  clear g9
                  go_wp2_with fail
                  refine hq.mono ?_
                  rintro e w8 ⟨rfl, hs8⟩
                  have HB := Lib.hid hs8.bel
                  clear hs8 hs hq
                  go_wp2_with fail
                  go_ret2
                  exact uv_no HM.out HF.out HB.out
                | some x =>
                  have hx64 : x < 18446744073709551616 := Nat.lt_of_lt_of_le (getAt_lt g9) (by have := Nat.pow_le_pow_right (n := 2) (by omega) (show s ≤ 64 by omega); simpa using this)
                  have HR := Lib.hid (runV_next HK.out HRUN.out (x := x * 2 ^ b % 18446744073709551616) (q := (pos + 2) + s) (win2 := some (a, b)) (by rw [HGX.out, show 64 - a - b = s by omega, g9]; rfl))
                  rw [← HY.out] at HR
                  have hxor := xor_shl y x b
                  obtain ⟨NX, hNX⟩ : ∃ NX, NX = PV.un y ^^^ (x * 2 ^ b % 18446744073709551616) := ⟨_, rfl⟩
                  rw [← hNX] at HR hxor
                  have hback := u64_back hx64
                  have hq := hs.get_some hNb (by omega) g9 rfl
                  obtain ⟨V, hV⟩ : ∃ V, V = wrap64 (x : Int) := ⟨_, rfl⟩
                  rw [← hV] at hq hback
                  have HV := Lib.hid hV
                  have HNX := Lib.hid hNX
                  clear g9 hV hNX
                  go_wp2_with fail
                  refine hq.mono ?_
                  rintro e w8 ⟨rfl, hs8⟩
                  clear hq hs
                  have hs := hs8
                  clear hs8
                  have hcx := HCX.out _ _ hs
                  have hgl := hs.rr.arr.lt
                  have hown := hs.own
                  go_wp2_with (at_builtin; refine wpList_append_lies _ rfl (.tmp 116) (.tmp 130) 23 rfl (g + 1) 3 i0 (.int .i64 0) 1 8 Try.underlying23 hi hz0 hz1 hz2 rfl (by decide) (.slice (some ⟨r, 0, none⟩) k cap) k (ints L) rfl (hown.alloc _) ⟨w8.heap.size, 0, none⟩ 1 1 [.int .i64 (wrap64 (NX : Int))] rfl rfl (cell_one_new w8 _ 3) (by simp [Value.oneCell']) (by omega) (by unfold maxLen; omega) (by omega) (by simp; omega) (w8.heap.size + 1) (by simp) ?_; intro r2 cap2 w9 hown9 hg9 hat9 hlt9)
                  have HS9 := Lib.hid ((hs.alloc _).grow hg9 hown9)
                  clear hown9 hg9 hat9 hlt9 hs hown hcx
                  go_wp2_with fail
                  go_roundw
                  case rel => exact ⟨k + 1, pos + 2 + s, a, b, L ++ [wrap64 (NX : Int)], by omega, by go_num, rfl, rfl, by omega, HR, by simpa [ints] using HS9.out⟩
                  case measure => simp [intOf]; omega
              · have HG2 := Lib.hid g2
                have hq := hs.get_some hNb (by omega) g2 (V := 1) (by unfold wrap64; omega)
                rw [show pos + 1 + 1 = pos + 2 by omega] at hq
                clear g2
                go_wp2_with fail
                refine hq.mono ?_
                rintro e w3 ⟨rfl, hs3⟩
                clear hq hs
                have hs := hs3
                clear hs3
                cases g3 : getAt (bitsOf l) (pos + 2) 5 with
                | none =>
                  have HF := Lib.hid (unpackV_fail (runV_next_none HK.out HRUN.out (getX_n3 HG1.out HG2.out g3)) (show k + 1 ≤ M by omega))
                  have hq := hs.get_none hNb (by omega) g3
                  clear g3
                  go_wp2_with fail
                  refine hq.mono ?_
                  rintro e w4 ⟨rfl, hs4⟩
                  clear hq hs
                  have hq := rget_any g N c1 (pos + 2) 6 A1 (bitsOf l) w4 hs4.rr hNb (by omega)
                  go_wp2_with fail
                  refine hq.mono ?_
                  rintro e w5 hp
                  have HB := Lib.hid (hs4.get hp).bel
                  obtain rfl := hp.1
                  clear hs4 hq hp
                  go_wp2_with fail
                  go_ret2
                  exact uv_no HM.out HF.out HB.out
                | some z =>
                  have hz32 := getAt_lt g3
                  have HG3 := Lib.hid g3
                  have hq := hs.get_some hNb (by omega) g3 (V := (z : Int)) (by unfold wrap64; omega)
                  rw [show pos + 2 + 5 = pos + 7 by omega] at hq
                  clear g3
                  go_wp2_with fail
                  refine hq.mono ?_
                  rintro e w4 ⟨rfl, hs4⟩
                  clear hq hs
                  have hs := hs4
                  clear hs4
                  cases g4 : getAt (bitsOf l) (pos + 7) 6 with
                  | none =>
                    have HF := Lib.hid (unpackV_fail (runV_next_none HK.out HRUN.out (getX_n4 HG1.out HG2.out HG3.out g4)) (show k + 1 ≤ M by omega))
                    have hq := hs.get_none hNb (by omega) g4
                    clear g4
                    go_wp2_with fail
                    refine hq.mono ?_
                    rintro e w5 ⟨rfl, hs5⟩
                    have HB := Lib.hid hs5.bel
                    clear hq hs hs5
                    go_wp2_with fail
                    go_ret2
                    exact uv_no HM.out HF.out HB.out
                  | some m =>
                    have hm64 := getAt_lt g4
                    have hq := hs.get_some hNb (by omega) g4 (V := (m : Int)) (by unfold wrap64; omega)
                    rw [show pos + 7 + 6 = pos + 13 by omega] at hq
                    have hgx := getX_new (win := some (a, b)) HG1.out HG2.out HG3.out g4
                    clear g4
                    by_cases hover : 63 < z + m
                    · rw [if_pos hover] at hgx
                      have HF := Lib.hid (unpackV_fail (runV_next_none HK.out HRUN.out hgx) (show k + 1 ≤ M by omega))
                      clear hgx
                      go_wp2_with fail
                      refine hq.mono ?_
                      rintro e w5 ⟨rfl, hs5⟩
                      have HB := Lib.hid hs5.bel
                      clear hq hs hs5
                      go_wp2_with fail
                      go_ret2
                      exact uv_no HM.out HF.out HB.out
                    · rw [if_neg hover] at hgx
                      obtain ⟨t, ht⟩ : ∃ t, z + m + t = 63 := ⟨63 - z - m, by omega⟩
                      have HGX : Hid (getX (bitsOf l) pos (some (a, b)) = (getAt (bitsOf l) (pos + 13) (64 - z - t)).map fun v => (v * 2 ^ t % 18446744073709551616, pos + 13 + (64 - z - t), some (z, t))) := by
                        show _ = _
                        rw [hgx, show 63 - z - m = t by omega, show 64 - z - t = m + 1 by omega]
                      have hwt : (64 : Int) - z - m - 1 = (t : Int) := by omega
                      clear hgx hover
                      go_wp2_with fail
                      refine hq.mono ?_
                      rintro e w5 ⟨rfl, hs5⟩
                      clear hq hs
                      have hs := hs5
                      clear hs5
                      obtain ⟨s, hs64⟩ : ∃ s, z + t + s = 64 := ⟨64 - z - t, by omega⟩
                      have hsz : (64 : Int) - z - t = (s : Int) := by omega
                      cases g9 : getAt (bitsOf l) (pos + 13) s with
                      | none =>
                        have HF := Lib.hid (unpackV_fail (runV_next_none HK.out HRUN.out (by rw [HGX.out, show 64 - z - t = s by omega, g9]; rfl)) (show k + 1 ≤ M by omega))
                        have hq := hs.get_none hNb (by omega) g9
                        clear g9
                        go_wp2_with fail
                        refine hq.mono ?_
                        rintro e w8 ⟨rfl, hs8⟩
                        have HB := Lib.hid hs8.bel
                        clear hs8 hs hq
                        go_wp2_with fail
                        go_ret2
                        exact uv_no HM.out HF.out HB.out
                      | some x =>
                        have hx64 : x < 18446744073709551616 := Nat.lt_of_lt_of_le (getAt_lt g9) (by have := Nat.pow_le_pow_right (n := 2) (by omega) (show s ≤ 64 by omega); simpa using this)
                        have HR := Lib.hid (runV_next HK.out HRUN.out (x := x * 2 ^ t % 18446744073709551616) (q := (pos + 13) + s) (win2 := some (z, t)) (by rw [HGX.out, show 64 - z - t = s by omega, g9]; rfl))
                        rw [← HY.out] at HR
                        have hxor := xor_shl y x t
                        obtain ⟨NX, hNX⟩ : ∃ NX, NX = PV.un y ^^^ (x * 2 ^ t % 18446744073709551616) := ⟨_, rfl⟩
                        rw [← hNX] at HR hxor
                        have hback := u64_back hx64
                        have hq := hs.get_some hNb (by omega) g9 rfl
                        obtain ⟨V, hV⟩ : ∃ V, V = wrap64 (x : Int) := ⟨_, rfl⟩
                        rw [← hV] at hq hback
                        have HV := Lib.hid hV
                        have HNX := Lib.hid hNX
                        clear g9 hV hNX
                        go_wp2_with fail
                        refine hq.mono ?_
                        rintro e w8 ⟨rfl, hs8⟩
                        clear hq hs
                        have hs := hs8
                        clear hs8
                        have hcx := HCX.out _ _ hs
                        have hgl := hs.rr.arr.lt
                        have hown := hs.own
                        go_wp2_with (at_builtin; refine wpList_append_lies _ rfl (.tmp 116) (.tmp 130) 23 rfl (g + 1) 3 i0 (.int .i64 0) 1 8 Try.underlying23 hi hz0 hz1 hz2 rfl (by decide) (.slice (some ⟨r, 0, none⟩) k cap) k (ints L) rfl (hown.alloc _) ⟨w8.heap.size, 0, none⟩ 1 1 [.int .i64 (wrap64 (NX : Int))] rfl rfl (cell_one_new w8 _ 3) (by simp [Value.oneCell']) (by omega) (by unfold maxLen; omega) (by omega) (by simp; omega) (w8.heap.size + 1) (by simp) ?_; intro r2 cap2 w9 hown9 hg9 hat9 hlt9)
                        have HS9 := Lib.hid ((hs.alloc _).grow hg9 hown9)
                        clear hown9 hg9 hat9 hlt9 hs hown hcx
                        go_wp2_with fail
                        go_roundw
                        case rel => exact ⟨k + 1, pos + 13 + s, z, t, L ++ [wrap64 (NX : Int)], by omega, by go_num, rfl, rfl, by omega, HR, by simpa [ints] using HS9.out⟩
                        case measure => simp [intOf]; omega
        · obtain rfl : k = M := by omega
          obtain ⟨A2, c2, rfl, hrd2, _⟩ := Rd.of_own hs.own
          have hLl : L.length = k := by have := hs.own.1; simpa [ints] using this
          have hq := rvalues_any A2 k c2 wr.heap.size L wr hrd2 (Nat.le_refl _) (by omega)
          have HS := Lib.hid hs
          have HL := Lib.hid hLl
          have hE : packEV L = 0 := by unfold packEV; rw [if_neg (by omega)]
          have HU : Hid (unpackV none l k = if packEV L = 0 ∧ packBV L = l then some L else none) := by
            show _ = _
            rw [unpackV_any none (some (0, 0))]
            unfold unpackV; rw [HRUN.out]; rfl
          unfold VPost at hq
          rw [hE] at hq
          have HE := Lib.hid hE
          clear hs hrd2 hLl hE
          go_wp2_with fail
          refine hq.mono ?_
          rintro e w2 ⟨v2, rfl, hown2, hb2⟩
          have HB : Hid (Below w.heap.size w w2) := HS.out.bel.trans (hb2.mono HS.out.bel.size)
          have HO : Hid (w2.ownsRow w.heap.size 3 1 (.slice A2 k c2) k (ints L)) := own_base (own_kp HS.out.own (Kp.none_of_below (S := fun _ => False) hb2) (fun _ _ h => h)) (by have := HS.out.ge; omega)
          have cv2 := conv_own hown2
          have cv1 := conv_rd (c := c) (HRD.out.below (HB.out.mono hB))
          have HPB : Hid (∀ x ∈ packBV L, x < 256) := by
            show ∀ x ∈ packBV L, x < 256
            unfold packBV
            split
            · exact bytesOf_lt _
            · simp
          clear hown2 hb2 hq
          by_cases hP : packBV L = l
          · have hne : ((strN (packBV L)).toList == (strN l).toList) = true := by rw [hP]; exact beq_self_eq_true _
            have HF : Hid (unpackV none l k = some L) := by
              show _ = _
              rw [HU.out, if_pos ⟨HE.out, hP⟩]
            clear hP
            go_wp2_with fail
            go_ret2
            exact uv_ok HM.out HF.out HL.out HB.out HO.out
          · have hne : ((strN (packBV L)).toList == (strN l).toList) = false := strN_beq HPB.out HBY.out hP
            have HF : Hid (unpackV none l k = none) := by
              show _ = _
              rw [HU.out, if_neg (fun h => hP h.2)]
            clear hP
            go_wp2_with fail
            go_ret2
            exact uv_no HM.out HF.out HB.out
end Go.Proofs.Ytnbamngancchmaa
