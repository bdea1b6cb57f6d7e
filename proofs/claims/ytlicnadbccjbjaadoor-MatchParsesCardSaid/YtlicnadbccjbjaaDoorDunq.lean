/- What labels.Unquote answers. Conditions: texts of at most 10^6 bytes; the error that is told lies where it was laid. -/
import Derived.Test.YtlicnadbccjbjaaDoorDword
import Derived.Lib.BufferRead
namespace Go.Proofs.YtlicnadbccjbjaaDoor
open Go.RowKit LB

/-- string(b) of bytes of one's own, nil let in. -/
theorem run_convert_any {w : World} {base n : Nat} {v : Value} {l : List UInt8} (h : w.ownsRow base 5 1 v n (bc l)) : (convert 35 9 v).run Tryd.prog w = .ok (.string (bs l)) w := by
  have hl : l.length = n := by have := h.1; rw [bc_len] at this; omega
  rcases h.2 with ⟨rfl, rfl⟩ | ⟨g', cap, cur, rfl, hb, hgg, rest⟩
  · have : l = [] := List.eq_nil_of_length_eq_zero hl
    subst this
    exact Lib.run_convert_nil_bytes w 35 9 5 0 Tryd.underlying35 Tryd.underlying5 Tryd.underlying9
  · exact run_convert_bytes_own Tryd.underlying35 Tryd.underlying5 Tryd.underlying9 h hl
/-- The error that labels.errText holds. -/
abbrev errV (a : Addr) : Value := .iface 94 (.pointer (some a))
/-- What Unquote answers. -/
def UPost (w : World) (S : List UInt8) (ea : Addr) (e : Ending) (w' : World) : Prop :=
  Below w.heap.size w w' ∧ e = .returned (match unqS S with | some (v, r) => .tuple #[.string (bs v), .string (bs r), .nilIface] | none => .tuple #[.string ⟨#[]⟩, .string ⟨#[]⟩, errV ea])
theorem upost_no {w w' : World} {S : List UInt8} {ea : Addr} (h : unqS S = none) (hb : Below w.heap.size w w') : UPost w S ea (.returned (.tuple #[.string ⟨#[]⟩, .string ⟨#[]⟩, errV ea])) w' := ⟨hb, by rw [h]⟩
theorem upost_ok {w w' : World} {S v r : List UInt8} {ea : Addr} (h : unqS S = some (v, r)) (hb : Below w.heap.size w w') : UPost w S ea (.returned (.tuple #[.string (bs v), .string (bs r), .nilIface])) w' := ⟨hb, by rw [h]⟩

theorem drop_at {s : ByteArray} {k : Nat} (h : k < s.size) : s.data.toList.drop k = s[k] :: s.data.toList.drop (k + 1) := by
  rw [List.drop_eq_getElem_cons (by simpa using h)]; rfl
theorem unq_short {c : UInt8} {r acc : List UInt8} (h : r.length < 2) (hc : c = 92) : unq (c :: r) acc = none := by
  subst hc
  match r, h with
  | [], _ => rw [unq.eq_def]; simp
  | [a], _ => rw [unq.eq_def]; simp
theorem unq_badhex {a b : UInt8} {r acc : List UInt8} (h : hexI a < 0 ∨ hexI b < 0) : unq (92 :: a :: b :: r) acc = none := by
  rw [unq.eq_def]
  have : ¬ ((92 : UInt8) = 34) := by decide
  simp only [this, if_false, if_true]
  rw [if_pos h]
theorem index_hex (c : UInt8) (w : World) : Calls Tryd.prog 54 #[.string ⟨#[48, 49, 50, 51, 52, 53, 54, 55, 56, 57, 97, 98, 99, 100, 101, 102]⟩, .int .u8 (c.toNat : Int)] w fun e w' => e = .returned (.int .i64 (hexI c)) ∧ w' = w := by
  have h := Tryd.strings_IndexByte ⟨#[48, 49, 50, 51, 52, 53, 54, 55, 56, 57, 97, 98, 99, 100, 101, 102]⟩ (c.toNat : Int) w
  have e : ((c.toNat : Int).toNat.toUInt8) = c := by simp
  rw [e] at h
  exact h
theorem u8_of {x : UInt8} {n : Nat} (h : x.toNat = n) : x = UInt8.ofNat n := by rw [← h]; simp
theorem empty_unq {S : List UInt8} (h : S = []) : unqS S = none := by subst h; rfl
theorem head_unq {c : UInt8} {r : List UInt8} (h : c ≠ 34) : unqS (c :: r) = none := by
  unfold unqS
  split
  · rename_i heq; injection heq with h1 _; exact absurd h1 h
  · rfl

theorem or_hex (x y : Nat) (hx : x < 16) (hy : y < 16) : bits BinOp.or IntKind.i64 ((x : Int) * 16) (y : Int) = ((16 * x + y : Nat) : Int) := by
  have e : ∀ x : Fin 16, ∀ y : Fin 16, bits BinOp.or IntKind.i64 ((x.val : Int) * 16) (y.val : Int) = ((16 * x.val + y.val : Nat) : Int) := by decide
  exact e ⟨x, hx⟩ ⟨y, hy⟩

set_option maxRecDepth 100000 in
set_option maxHeartbeats 4000000 in
theorem unq41 (s : ByteArray) (ea : Addr) (w : World) (hs : s.size ≤ 1000000) (he : w.cell? ⟨0, 0, none⟩ = some (errV ea)) (h0 : 0 < w.heap.size) :
    Calls Tryd.prog 41 #[.string s] w (UPost w s.data.toList ea) := by
  obtain ⟨i0, hi, hz0, hz1, hz2⟩ := info_parts Tryd.info5
  by_cases hz : s.size = 0
  · have hn : unqS s.data.toList = none := empty_unq (List.eq_nil_of_length_eq_zero (by simpa using hz))
    obtain rfl := (empty_iff s).1 hz
    have HN := Lib.hid hn
    clear hn hz
    go_enter Tryd.func41, Tryd.ntmps41
    go_wp2_with fail
    go_quiet (fail)
    go_wp2_with fail
    go_ret3
    exact upost_no HN.out (below_drewN (Below.refl _ _) _)
  · have hne := not_empty hz
    have hzp : 0 < s.size := by omega
    have hd0 := drop_at hzp
    rw [List.drop_zero] at hd0
    by_cases hq : s[0].toNat = 34
    · have e34 : ((s[0].toNat : Int) != 34) = false := by rw [hq]; rfl
      have hc : s[0] = 34 := u8_of hq
      have hst : unqS s.data.toList = unq (s.data.toList.drop 1) [] := by rw [hd0, hc]; rfl
      have HST := Lib.hid hst
      clear hst hd0 hc hq hz
      go_enter Tryd.func41, Tryd.ntmps41
      go_wp2_with fail
      go_loopw [5, 6] (fun v i wr => ∃ (k n : Nat) (l : List UInt8), k ≤ s.size ∧ i = .int .i64 k ∧ n ≤ k ∧ Hid (unqS s.data.toList = unq (s.data.toList.drop k) l) ∧ wr.ownsRow w.heap.size 5 1 v n (bc l) ∧ Below w.heap.size w wr) (fun _ i _ => s.size - (intOf i).toNat)
      case atStart => exact ⟨1, 0, [], by omega, rfl, by omega, HST.out, World.ownsRow_nil _ _ _ _, Below.refl _ _⟩
      case round =>
        obtain ⟨k, n, l, hk, rfl, hnk, hu, hown, hb⟩ := hrel
        have hsz := hb.size
        have he2 : wr.cell? ⟨0, 0, none⟩ = some (errV ea) := (hb.cell (p := ⟨0, 0, none⟩) h0).trans he
        by_cases hlt : k < s.size
        · have hdr := drop_at hlt
          obtain ⟨c, hc⟩ : ∃ c, c = s[k] := ⟨_, rfl⟩
          rw [← hc] at hdr
          by_cases h34 : c.toNat = 34
          · have hc34 : c = 34 := u8_of h34
            have HU : Hid (unqS s.data.toList = some (l, s.data.toList.drop (k + 1))) := by
              show _ = _
              rw [hu.out, hdr, hc34, unq_end]
            have f1 : ((s[k].toNat : Int) == 34) = true := by rw [← hc, h34]; rfl
            have hcv : ∀ q, (convert 35 9 u5).run Tryd.prog (wr.drewN q) = .ok (.string (bs l)) (wr.drewN q) := fun q => run_convert_any hown
            have hcv0 : (convert 35 9 u5).run Tryd.prog wr = .ok (.string (bs l)) wr := run_convert_any hown
            have z0 : (0 : Int) ≤ (k : Int) + 1 := by omega
            have z1 : (k : Int) + 1 ≤ (s.size : Int) := by omega
            clear hdr h34 hc34 hc
            go_wp2_with fail
            go_quiet (fail)
            go_wp2_with fail
            go_ret3
            rw [cut_tail]
            exact upost_ok HU.out (below_drewN hb _)
          · have f1 : ((s[k].toNat : Int) == 34) = false := by rw [← hc, beq_eq_false_iff_ne]; omega
            have hc34 : c ≠ 34 := fun h => h34 (by rw [h]; rfl)
            by_cases h92 : c.toNat = 92
            · have f2 : ((s[k].toNat : Int) == 92) = true := by rw [← hc, h92]; rfl
              have hc92 : c = 92 := u8_of h92
              by_cases hshort : s.size ≤ k + 2
              · have d1 : decide ((s.size : Int) ≤ (k : Int) + 2) = true := decide_eq_true (by omega)
                have HU : Hid (unqS s.data.toList = none) := by
                  show _ = _
                  rw [hu.out, hdr]
                  exact unq_short (by rw [List.length_drop]; simp; omega) hc92
                clear hdr h34 hc34 hc92 h92 hc hshort
                go_wp2_with fail
                go_quiet (fail)
                go_wp2_with fail
                go_ret3
                exact upost_no HU.out (below_drewN hb _)
              · have d1 : decide ((s.size : Int) ≤ (k : Int) + 2) = false := decide_eq_false (by omega)
                have hk1 : k + 1 < s.size := by omega
                have hk2 : k + 2 < s.size := by omega
                have hdr1 := drop_at hk1
                have hdr2 := drop_at hk2
                obtain ⟨a, ha⟩ : ∃ a, a = s[k + 1] := ⟨_, rfl⟩
                obtain ⟨b, hbb⟩ : ∃ b, b = s[k + 2] := ⟨_, rfl⟩
                have q1 := fun W => index_hex a W
                have q2 := fun W => index_hex b W
                have ra := hexI_range a
                have rb := hexI_range b
                have hua := hu.out
                rw [hdr, hdr1, hdr2, ← ha, ← hbb, hc92] at hua
                rw [ha] at q1
                rw [hbb] at q2
                rw [← ha] at q1
                rw [← hbb] at q2
                obtain ⟨X, hX⟩ : ∃ X, X = hexI a := ⟨_, rfl⟩
                obtain ⟨Y, hY⟩ : ∃ Y, Y = hexI b := ⟨_, rfl⟩
                rw [← hX] at q1 ra
                rw [← hY] at q2 rb
                rw [ha] at q1
                rw [hbb] at q2
                have Q1 := Lib.hid q1
                have Q2 := Lib.hid q2
                obtain ⟨ra1, ra2⟩ := ra
                obtain ⟨rb1, rb2⟩ := rb
                have HX := Lib.hid (And.intro hX hY)
                have HUA := Lib.hid hua
                have zk1 : (k : Int) + 1 < (s.size : Int) := by omega
                have zk2 : (k : Int) + 2 < (s.size : Int) := by omega
                clear hdr hdr1 hdr2 h34 hc34 hc92 h92 hc q1 q2 ha hbb hX hY hua
                by_cases hx : X < 0
                · have HU : Hid (unqS s.data.toList = none) := by
                    show _ = _
                    rw [HUA.out]; exact unq_badhex (.inl (by rw [← HX.out.1]; exact hx))
                  have d2 : decide (X < 0) = true := decide_eq_true hx
                  go_wp2_with fail
                  refine (Q1.out _).mono ?_
                  rintro e w2 ⟨rfl, hw2⟩; rw [hw2]; clear hw2 w2
                  go_wp2_with fail
                  refine (Q2.out _).mono ?_
                  rintro e w2 ⟨rfl, hw2⟩; rw [hw2]; clear hw2 w2
                  go_wp2_with fail
                  go_quiet (fail)
                  go_wp2_with fail
                  go_ret3
                  exact upost_no HU.out (below_drewN hb _)
                · have d2 : decide (X < 0) = false := decide_eq_false hx
                  by_cases hy : Y < 0
                  · have HU : Hid (unqS s.data.toList = none) := by
                      show _ = _
                      rw [HUA.out]; exact unq_badhex (.inr (by rw [← HX.out.2]; exact hy))
                    have d3 : decide (Y < 0) = true := decide_eq_true hy
                    go_wp2_with fail
                    refine (Q1.out _).mono ?_
                    rintro e w2 ⟨rfl, hw2⟩; rw [hw2]; clear hw2 w2
                    go_wp2_with fail
                    refine (Q2.out _).mono ?_
                    rintro e w2 ⟨rfl, hw2⟩; rw [hw2]; clear hw2 w2
                    go_wp2_with fail
                    go_quiet (fail)
                    go_wp2_with fail
                    go_ret3
                    exact upost_no HU.out (below_drewN hb _)
                  · have d3 : decide (Y < 0) = false := decide_eq_false hy
                    obtain ⟨x, rfl⟩ := Int.eq_ofNat_of_zero_le (show 0 ≤ X by omega)
                    obtain ⟨y, rfl⟩ := Int.eq_ofNat_of_zero_le (show 0 ≤ Y by omega)
                    have hx16 : x < 16 := by omega
                    have hy16 : y < 16 := by omega
                    have HU : Hid (unqS s.data.toList = unq (s.data.toList.drop (k + 3)) (l ++ [UInt8.ofNat (16 * x + y)])) := by
                      show _ = _
                      rw [HUA.out, unq_esc (by rw [← HX.out.1, ← HX.out.2]; omega), ← HX.out.1, ← HX.out.2]
                      rfl
                    obtain ⟨Z, hZ⟩ : ∃ Z, Z = 16 * x + y := ⟨_, rfl⟩
                    have hbits := or_hex x y hx16 hy16
                    rw [← hZ] at hbits HU
                    have hZ256 : Z < 256 := by omega
                    have hmod : ((Z : Nat) : Int) % 256 = (Z : Int) := by omega
                    have hZu : (UInt8.ofNat Z).toNat = Z := by simp; omega
                    have HZ := Lib.hid (And.intro hZ hZu)
                    clear hx hy HX HUA hZ hZu
                    go_wp2_with fail
                    refine (Q1.out _).mono ?_
                    rintro e w2 ⟨rfl, hw2⟩; rw [hw2]; clear hw2 w2
                    go_wp2_with fail
                    refine (Q2.out _).mono ?_
                    rintro e w2 ⟨rfl, hw2⟩; rw [hw2]; clear hw2 w2
                    go_wp2_with (at_builtin; refine wpList_append_lies _ rfl (.tmp 65) (.tmp 71) 35 rfl w.heap.size 5 i0 (.int .u8 0) 1 1 Tryd.underlying35 hi hz0 hz1 hz2 rfl (by decide) u5 n (bc l) rfl (hown.alloc _) ⟨wr.heap.size, 0, none⟩ 1 1 [.int .u8 (Z : Int)] rfl rfl (news_row wr _ 5) (by simp [Value.oneCell']) (by omega) (by unfold maxLen; omega) (by omega) (by simp; omega) (wr.heap.size + 1) (by simp) ?_; intro r cap w3 hown3 hg3 hat3 hlt3)
                    have HF : Hid (w3.ownsRow w.heap.size 5 1 (.slice (some ⟨r, 0, none⟩) (n + 1) cap) (n + 1) (bc (l ++ [UInt8.ofNat Z])) ∧ Below w.heap.size w w3) := by
                      refine ⟨?_, (hb.alloc hsz _).grown hg3 (by simp; omega) (fun x hx => (hown.lt x hx).1)⟩
                      rw [bc_append, show bc [UInt8.ofNat Z] = [.int .u8 (Z : Int)] by simp only [bc, Lib.byteCells, List.map_cons, List.map_nil, HZ.out.2]]
                      exact hown3
                    clear hown3 hg3 hat3 hlt3 hown hb
                    go_wp2_with fail
                    go_roundw
                    case rel => exact ⟨k + 3, n + 1, _, by omega, by go_num, by omega, HU, HF.out.1, HF.out.2⟩
                    case measure => simp [intOf]; omega
            · have f2 : ((s[k].toNat : Int) == 92) = false := by rw [← hc, beq_eq_false_iff_ne]; omega
              have hc92 : c ≠ 92 := fun h => h92 (by rw [h]; rfl)
              have HU : Hid (unqS s.data.toList = unq (s.data.toList.drop (k + 1)) (l ++ [s[k]])) := by
                show _ = _
                rw [hu.out, hdr, unq_plain hc34 hc92, hc]
              clear hdr h34 hc34 hc92 h92 hc
              go_wp2_with (at_builtin; refine wpList_append_lies _ rfl (.tmp 28) (.tmp 30) 35 rfl w.heap.size 5 i0 (.int .u8 0) 1 1 Tryd.underlying35 hi hz0 hz1 hz2 rfl (by decide) u5 n (bc l) rfl (hown.alloc _) ⟨wr.heap.size, 0, none⟩ 1 1 [.int .u8 (s[k].toNat : Int)] rfl rfl (news_row wr _ 5) (by simp [Value.oneCell']) (by omega) (by unfold maxLen; omega) (by omega) (by simp; omega) (wr.heap.size + 1) (by simp) ?_; intro r cap w3 hown3 hg3 hat3 hlt3)
              have HF : Hid (w3.ownsRow w.heap.size 5 1 (.slice (some ⟨r, 0, none⟩) (n + 1) cap) (n + 1) (bc (l ++ [s[k]])) ∧ Below w.heap.size w w3) := by
                refine ⟨?_, (hb.alloc hsz _).grown hg3 (by simp; omega) (fun x hx => (hown.lt x hx).1)⟩
                rw [bc_append]
                exact hown3
              clear hown3 hg3 hat3 hlt3 hown hb
              go_wp2_with fail
              go_roundw
              case rel => exact ⟨k + 1, n + 1, _, by omega, by go_num, by omega, HU, HF.out.1, HF.out.2⟩
              case measure => simp [intOf]; omega
        · obtain rfl : k = s.size := by omega
          have HU : Hid (unqS s.data.toList = none) := by
            show _ = _
            rw [hu.out, List.drop_eq_nil_of_le (by simp), unq.eq_def]
          go_wp2_with fail
          go_quiet (fail)
          go_wp2_with fail
          go_ret3
          exact upost_no HU.out (below_drewN hb _)
    · have e34 : ((s[0].toNat : Int) != 34) = true := by rw [bne_iff_ne]; omega
      have hn : unqS s.data.toList = none := by rw [hd0]; exact head_unq (fun h => hq (by rw [h]; rfl))
      have HN := Lib.hid hn
      clear hn hd0 hq hz
      go_enter Tryd.func41, Tryd.ntmps41
      go_wp2_with fail
      go_quiet (fail)
      go_wp2_with fail
      go_ret3
      exact upost_no HN.out (below_drewN (Below.refl _ _) _)
end Go.Proofs.YtlicnadbccjbjaaDoor
