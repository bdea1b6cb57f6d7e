/- What the reference's value answers. Conditions: texts of at most 10^6 bytes. -/
import Derived.Test.YtlicnadbccjbjaaDoorDhex
import Derived.Test.YtlicnadbccjbjaaDoorDunq
namespace Go.Proofs.YtlicnadbccjbjaaDoor
open Go.RowKit LB

/-- What value answers. -/
def VPost (w : World) (S : List UInt8) (a : Nat) (e : Ending) (w' : World) : Prop :=
  Below w.heap.size w w' ∧ ((∃ (v : List UInt8) (k : Nat), unqS (S.drop a) = some (v, S.drop k) ∧ a < k ∧ k ≤ S.length ∧ e = .returned (.tuple #[.string (bs v), .int .i64 k, .bool true])) ∨
    (unqS (S.drop a) = none ∧ e = .returned (.tuple #[.string ⟨#[]⟩, .int .i64 0, .bool false])))
theorem vpost_no {w w' : World} {S : List UInt8} {a : Nat} (h : unqS (S.drop a) = none) (hb : Below w.heap.size w w') : VPost w S a (.returned (.tuple #[.string ⟨#[]⟩, .int .i64 0, .bool false])) w' := ⟨hb, .inr ⟨h, rfl⟩⟩
theorem vpost_ok {w w' : World} {S v : List UInt8} {a k : Nat} {z : Int} (h : unqS (S.drop a) = some (v, S.drop (k + 1))) (ha : a < k) (hk : k < S.length) (hz : z = (k : Int) + 1) (hb : Below w.heap.size w w') :
    VPost w S a (.returned (.tuple #[.string (bs v), .int .i64 z, .bool true])) w' := ⟨hb, .inl ⟨v, k + 1, h, by omega, by omega, by subst hz; rfl⟩⟩

set_option maxRecDepth 100000 in
set_option maxHeartbeats 4000000 in
theorem value33 (s : ByteArray) (a : Nat) (w : World) (hs : s.size ≤ 1000000) (ha : a ≤ 1000000) :
    Calls Tryd.prog 33 #[.string s, .int .i64 a] w (VPost w s.data.toList a) := by
  obtain ⟨i0, hi, hz0, hz1, hz2⟩ := info_parts Tryd.info5
  by_cases hlta : a < s.size
  · have hd0 := drop_at hlta
    by_cases hq : s[a].toNat = 34
    · have e34 : ((s[a].toNat : Int) != 34) = false := by rw [hq]; rfl
      have hc : s[a] = 34 := u8_of hq
      have hst : unqS (s.data.toList.drop a) = unq (s.data.toList.drop (a + 1)) [] := by rw [hd0, hc]; rfl
      have HST := Lib.hid hst
      have d0 : decide ((s.size : Int) ≤ (a : Int)) = false := decide_eq_false (by omega)
      have d1 : decide (s.size ≤ a) = false := decide_eq_false (by omega)
      clear hst hd0 hc hq
      go_enter Tryd.func33, Tryd.ntmps33
      go_wp2_with fail
      go_loopw [1, 7] (fun i v wr => ∃ (k n : Nat) (l : List UInt8), a < k ∧ k ≤ s.size ∧ i = .int .i64 k ∧ n ≤ k ∧ Hid (unqS (s.data.toList.drop a) = unq (s.data.toList.drop k) l) ∧ wr.ownsRow w.heap.size 5 1 v n (bc l) ∧ Below w.heap.size w wr) (fun i _ _ => s.size - (intOf i).toNat)
      case atStart => exact ⟨a + 1, 0, [], by omega, by omega, by go_num, by omega, HST, World.ownsRow_nil _ _ _ _, Below.refl _ _⟩
      case round =>
        obtain ⟨k, n, l, hak, hk, rfl, hnk, hu, hown, hb⟩ := hrel
        have hsz := hb.size
        by_cases hlt : k < s.size
        · have hdr := drop_at hlt
          have g0 : decide (s.size ≤ k) = false := decide_eq_false (by omega)
          have g1 : decide ((s.size : Int) ≤ (k : Int)) = false := decide_eq_false (by omega)
          obtain ⟨c, hc⟩ : ∃ c, c = s[k] := ⟨_, rfl⟩
          rw [← hc] at hdr
          by_cases h34 : c.toNat = 34
          · have hc34 : c = 34 := u8_of h34
            have HU : Hid (unqS (s.data.toList.drop a) = some (l, s.data.toList.drop (k + 1))) := by
              show _ = _
              rw [hu.out, hdr, hc34, unq_end]
            have f1 : ((s[k].toNat : Int) != 34) = false := by rw [← hc, h34]; rfl
            have hcv0 : (convert 35 9 u7).run Tryd.prog wr = .ok (.string (bs l)) wr := run_convert_any hown
            clear hdr h34 hc34 hc
            go_wp2_with fail
            go_ret3
            exact vpost_ok HU.out hak (by simpa using hlt) (by go_num) hb
          · have f1 : ((s[k].toNat : Int) != 34) = true := by rw [← hc, bne_iff_ne]; omega
            have hc34 : c ≠ 34 := fun h => h34 (by rw [h]; rfl)
            by_cases h92 : c.toNat = 92
            · have f2 : ((s[k].toNat : Int) == 92) = true := by rw [← hc, h92]; rfl
              have hc92 : c = 92 := u8_of h92
              by_cases hshort : s.size ≤ k + 2
              · have d3 : decide ((s.size : Int) < (k : Int) + 1 + 2) = true := decide_eq_true (by omega)
                have d4 : decide ((s.size : Int) < (k : Int) + 3) = true := decide_eq_true (by omega)
                have HU : Hid (unqS (s.data.toList.drop a) = none) := by
                  show _ = _
                  rw [hu.out, hdr]
                  exact unq_short (by rw [List.length_drop]; simp; omega) hc92
                clear hdr h34 hc34 hc92 h92 hc hshort
                go_wp2_with fail
                go_ret3
                exact vpost_no HU.out hb
              · have d3 : decide ((s.size : Int) < (k : Int) + 1 + 2) = false := decide_eq_false (by omega)
                have d4 : decide ((s.size : Int) < (k : Int) + 3) = false := decide_eq_false (by omega)
                have hk1 : k + 1 < s.size := by omega
                have hk2 : k + 2 < s.size := by omega
                have hdr1 := drop_at hk1
                have hdr2 := drop_at hk2
                obtain ⟨x0, ha⟩ : ∃ a, a = s[k + 1] := ⟨_, rfl⟩
                obtain ⟨y0, hbb⟩ : ∃ b, b = s[k + 2] := ⟨_, rfl⟩
                have q1 := fun W => hex46 x0 W
                have q2 := fun W => hex46 y0 W
                have ra := hexI_range x0
                have rb := hexI_range y0
                have hua := hu.out
                rw [hdr, hdr1, hdr2, ← ha, ← hbb, hc92] at hua
                obtain ⟨X, hX⟩ : ∃ X, X = hexI x0 := ⟨_, rfl⟩
                obtain ⟨Y, hY⟩ : ∃ Y, Y = hexI y0 := ⟨_, rfl⟩
                rw [← hX] at q1 ra
                rw [← hY] at q2 rb
                rw [ha] at q1
                rw [hbb] at q2
                have Q1 := Lib.hid q1
                have Q2 := Lib.hid q2
                obtain ⟨ra1, ra2⟩ := ra
                obtain ⟨rb1, rb2⟩ := rb
                have HX := Lib.hid (And.intro hX hY)
                have HUA := Lib.hid hua
                have zk1 : (k : Int) + 1 < (s.size : Int) := by omega
                have zk2 : (k : Int) + 1 + 1 < (s.size : Int) := by omega
                have zk3 : (k : Int) + 2 < (s.size : Int) := by omega
                clear hdr hdr1 hdr2 h34 hc34 hc92 h92 hc q1 q2 ha hbb hX hY hua
                by_cases hx : X < 0
                · have HU : Hid (unqS (s.data.toList.drop a) = none) := by
                    show _ = _
                    rw [HUA.out]; exact unq_badhex (.inl (by rw [← HX.out.1]; exact hx))
                  have d2 : decide (X < 0) = true := decide_eq_true hx
                  go_wp2_with fail
                  refine (Q1.out _).mono ?_
                  rintro e w2 ⟨rfl, hw2⟩; rw [hw2]; clear hw2 w2
                  go_wp2_with fail
                  refine (Q2.out _).mono ?_
                  rintro e w2 ⟨rfl, hw2⟩; rw [hw2]; clear hw2 w2
                  go_wp2_with fail
                  go_ret3
                  exact vpost_no HU.out hb
                · have d2 : decide (X < 0) = false := decide_eq_false hx
                  by_cases hy : Y < 0
                  · have HU : Hid (unqS (s.data.toList.drop a) = none) := by
                      show _ = _
                      rw [HUA.out]; exact unq_badhex (.inr (by rw [← HX.out.2]; exact hy))
                    have d5 : decide (Y < 0) = true := decide_eq_true hy
                    go_wp2_with fail
                    refine (Q1.out _).mono ?_
                    rintro e w2 ⟨rfl, hw2⟩; rw [hw2]; clear hw2 w2
                    go_wp2_with fail
                    refine (Q2.out _).mono ?_
                    rintro e w2 ⟨rfl, hw2⟩; rw [hw2]; clear hw2 w2
                    go_wp2_with fail
                    go_ret3
                    exact vpost_no HU.out hb
                  · have d5 : decide (Y < 0) = false := decide_eq_false hy
                    obtain ⟨x, rfl⟩ := Int.eq_ofNat_of_zero_le (show 0 ≤ X by omega)
                    obtain ⟨y, rfl⟩ := Int.eq_ofNat_of_zero_le (show 0 ≤ Y by omega)
                    have hx16 : x < 16 := by omega
                    have hy16 : y < 16 := by omega
                    have HU : Hid (unqS (s.data.toList.drop a) = unq (s.data.toList.drop (k + 3)) (l ++ [UInt8.ofNat (16 * x + y)])) := by
                      show _ = _
                      rw [HUA.out, unq_esc (by rw [← HX.out.1, ← HX.out.2]; omega), ← HX.out.1, ← HX.out.2]
                      rfl
                    obtain ⟨Z, hZ⟩ : ∃ Z, Z = 16 * x + y := ⟨_, rfl⟩
                    rw [← hZ] at HU
                    have hZ256 : Z < 256 := by omega
                    have hsum : (16 : Int) * (x : Int) + (y : Int) = (Z : Int) := by omega
                    have hmod : ((Z : Nat) : Int) % 256 = (Z : Int) := by omega
                    have hZu : (UInt8.ofNat Z).toNat = Z := by simp; omega
                    have HZ := Lib.hid (And.intro hZ hZu)
                    clear hx hy HX HUA hZ hZu
                    go_wp2_with fail
                    refine (Q1.out _).mono ?_
                    rintro e w2 ⟨rfl, hw2⟩; rw [hw2]; clear hw2 w2
                    go_wp2_with fail
                    refine (Q2.out _).mono ?_
                    rintro e w2 ⟨rfl, hw2⟩; rw [hw2]; clear hw2 w2
                    go_wp2_with (at_builtin; refine wpList_append_lies _ rfl (.tmp 67) (.tmp 69) 35 rfl w.heap.size 5 i0 (.int .u8 0) 1 1 Tryd.underlying35 hi hz0 hz1 hz2 rfl (by decide) u7 n (bc l) rfl (hown.alloc _) ⟨wr.heap.size, 0, none⟩ 1 1 [.int .u8 (Z : Int)] rfl rfl (news_row wr _ 5) (by simp [Value.oneCell']) (by omega) (by unfold maxLen; omega) (by omega) (by simp; omega) (wr.heap.size + 1) (by simp) ?_; intro r cap w3 hown3 hg3 hat3 hlt3)
                    have HF : Hid (w3.ownsRow w.heap.size 5 1 (.slice (some ⟨r, 0, none⟩) (n + 1) cap) (n + 1) (bc (l ++ [UInt8.ofNat Z])) ∧ Below w.heap.size w w3) := by
                      refine ⟨?_, (hb.alloc hsz _).grown hg3 (by simp; omega) (fun x hx => (hown.lt x hx).1)⟩
                      rw [bc_append, show bc [UInt8.ofNat Z] = [.int .u8 (Z : Int)] by simp only [bc, Lib.byteCells, List.map_cons, List.map_nil, HZ.out.2]]
                      exact hown3
                    clear hown3 hg3 hat3 hlt3 hown hb
                    go_wp2_with fail
                    go_roundw
                    case rel => exact ⟨k + 3, n + 1, _, by omega, by omega, by go_num, by omega, HU, HF.out.1, HF.out.2⟩
                    case measure => simp [intOf]; omega
            · have f2 : ((s[k].toNat : Int) == 92) = false := by rw [← hc, beq_eq_false_iff_ne]; omega
              have hc92 : c ≠ 92 := fun h => h92 (by rw [h]; rfl)
              have HU : Hid (unqS (s.data.toList.drop a) = unq (s.data.toList.drop (k + 1)) (l ++ [s[k]])) := by
                show _ = _
                rw [hu.out, hdr, unq_plain hc34 hc92, hc]
              clear hdr h34 hc34 hc92 h92 hc
              go_wp2_with (at_builtin; refine wpList_append_lies _ rfl (.tmp 67) (.tmp 69) 35 rfl w.heap.size 5 i0 (.int .u8 0) 1 1 Tryd.underlying35 hi hz0 hz1 hz2 rfl (by decide) u7 n (bc l) rfl (hown.alloc _) ⟨wr.heap.size, 0, none⟩ 1 1 [.int .u8 (s[k].toNat : Int)] rfl rfl (news_row wr _ 5) (by simp [Value.oneCell']) (by omega) (by unfold maxLen; omega) (by omega) (by simp; omega) (wr.heap.size + 1) (by simp) ?_; intro r cap w3 hown3 hg3 hat3 hlt3)
              have HF : Hid (w3.ownsRow w.heap.size 5 1 (.slice (some ⟨r, 0, none⟩) (n + 1) cap) (n + 1) (bc (l ++ [s[k]])) ∧ Below w.heap.size w w3) := by
                refine ⟨?_, (hb.alloc hsz _).grown hg3 (by simp; omega) (fun x hx => (hown.lt x hx).1)⟩
                rw [bc_append]
                exact hown3
              clear hown3 hg3 hat3 hlt3 hown hb
              go_wp2_with fail
              go_roundw
              case rel => exact ⟨k + 1, n + 1, _, by omega, by omega, by go_num, by omega, HU, HF.out.1, HF.out.2⟩
              case measure => simp [intOf]; omega
        · obtain rfl : k = s.size := by omega
          have HU : Hid (unqS (s.data.toList.drop a) = none) := by
            show _ = _
            rw [hu.out, List.drop_eq_nil_of_le (by simp), unq.eq_def]
          go_wp2_with fail
          go_ret3
          exact vpost_no HU.out hb
    · have e34 : ((s[a].toNat : Int) != 34) = true := by rw [bne_iff_ne]; omega
      have hn : unqS (s.data.toList.drop a) = none := by rw [hd0]; exact head_unq (fun h => hq (by rw [h]; rfl))
      have HN := Lib.hid hn
      have d0 : decide ((s.size : Int) ≤ (a : Int)) = false := decide_eq_false (by omega)
      have d1 : decide (s.size ≤ a) = false := decide_eq_false (by omega)
      clear hn hd0 hq
      go_enter Tryd.func33, Tryd.ntmps33
      go_wp2_with fail
      go_ret3
      exact vpost_no HN.out (Below.refl _ _)
  · have HN := Lib.hid (empty_unq (S := s.data.toList.drop a) (List.drop_eq_nil_of_le (by simp; omega)))
    have d0 : decide ((s.size : Int) ≤ (a : Int)) = true := decide_eq_true (by omega)
    have d1 : decide (s.size ≤ a) = true := decide_eq_true (by omega)
    go_enter Tryd.func33, Tryd.ntmps33
    go_wp2_with fail
    go_ret3
    exact vpost_no HN.out (Below.refl _ _)
end Go.Proofs.YtlicnadbccjbjaaDoor
