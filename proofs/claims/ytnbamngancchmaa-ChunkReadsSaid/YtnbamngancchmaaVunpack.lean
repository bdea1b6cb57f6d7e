/- What values.Unpack answers: the numbers, or the error. Conditions: at most 10^9 bytes, each below 256. -/
import Derived.Test.YtnbamngancchmaaVget
import Derived.Deep.RegionLaw
namespace Go.Proofs.Ytnbamngancchmaa
open Go.RowKit PB PV

theorem Try.vinfo3 : (Try.prog.info? 3).map (fun i => (i.zero, i.size, i.bytes)) = some (some (.int .i64 0), 1, 8) := by kernel_rfl
def unpackVE (b : List Nat) (m : Int) : Int := if 120 < m then 2 else if m < 0 then 1 else if (unpackV none b m.toNat).isSome then 0 else 5
def unpackVL (b : List Nat) (m : Int) : List Int := if 120 < m then [] else if m < 0 then [] else (unpackV none b m.toNat).getD []
/-- What Unpack answers. -/
def UVPost (w : World) (b : List Nat) (m : Int) (r : Ending) (w' : World) : Prop :=
  ∃ v, r = .returned (.tuple #[v, .int .i64 (unpackVE b m)]) ∧ w'.ownsRow w.heap.size 3 1 v (unpackVL b m).length (ints (unpackVL b m)) ∧ Below w.heap.size w w'

/-- What has been read when k numbers are. -/
def Run (l : List Nat) (k p : Nat) (L : List Int) (win : Option (Nat × Nat)) (hi lo : Int) (sm bd : Bool) : Prop :=
  (bd = false → runV none (bitsOf l) k = some (p, L, win) ∧ WinOk win hi lo sm ∧ OkW win) ∧ (bd = true → runV none (bitsOf l) k = none)
theorem Run.zero (l : List Nat) : Run l 0 0 [] none 0 0 false false := ⟨fun _ => ⟨rfl, ⟨rfl, fun _ h => by cases h⟩, fun _ h => by cases h⟩, fun h => by cases h⟩
theorem Run.first {l : List Nat} {p p2 : Nat} {L : List Int} {win : Option (Nat × Nat)} {hi lo v : Int} {sm bd b2 : Bool} (h : Run l 0 p L win hi lo sm bd)
    (d : (∃ x : Nat, getAt (bitsOf l) p 64 = some x ∧ v = wrap64 (x : Int) ∧ p2 = p + 64 ∧ b2 = bd) ∨ (getAt (bitsOf l) p 64 = none ∧ v = 0 ∧ b2 = true)) : Run l (0 + 1) p2 (L ++ [v]) win hi lo sm b2 := by
  have e : runV none (bitsOf l) (0 + 1) = (runV none (bitsOf l) 0).bind fun s => (getAt (bitsOf l) s.1 64).map fun (v : Nat) => (s.1 + 64, s.2.1 ++ [wrap64 (v : Int)], s.2.2) := rfl
  rcases d with ⟨x, gx, hx, rfl, rfl⟩ | ⟨gx, _, rfl⟩
  · refine ⟨fun hf => ?_, fun hf => runV_none (h.2 hf) (by omega)⟩
    obtain ⟨h1, h2, h3⟩ := h.1 hf
    refine ⟨?_, h2, h3⟩
    rw [e, h1, Option.bind_some, gx, hx]; rfl
  · refine ⟨fun hf => (by cases hf), fun _ => ?_⟩
    cases bd with
    | true => exact runV_none (h.2 rfl) (by omega)
    | false =>
      obtain ⟨h1, _, _⟩ := h.1 rfl
      rw [e, h1, Option.bind_some, gx]; rfl
theorem Run.next {l : List Nat} {k p p2 r : Nat} {L : List Int} {win win2 : Option (Nat × Nat)} {hi lo hi2 lo2 : Int} {sm bd sm2 b2 : Bool} (h : Run l k p L win hi lo sm bd) (hk : 0 < k) (hbad : bd = true → b2 = true)
    (hd : bd = false → (getX (bitsOf l) p win = some (r, p2, win2) ∧ b2 = false ∧ WinOk win2 hi2 lo2 sm2 ∧ OkW win2) ∨ (getX (bitsOf l) p win = none ∧ b2 = true)) :
    Run l (k + 1) p2 (L ++ [wrap64 ((un (L.getD (k - 1) 0) ^^^ r : Nat) : Int)]) win2 hi2 lo2 sm2 b2 := by
  cases bd with
  | true =>
    have := hbad rfl
    subst this
    exact ⟨fun hf => (by cases hf), fun _ => runV_none (h.2 rfl) (by omega)⟩
  | false =>
    obtain ⟨h1, _, _⟩ := h.1 rfl
    have e : runV none (bitsOf l) (k + 1) = (getX (bitsOf l) p win).map fun x => (x.2.1, L ++ [wrap64 ((un (L.getD (k - 1) 0) ^^^ x.1 : Nat) : Int)], x.2.2) := by
      simp only [runV, h1, Option.bind_some]
      rw [if_neg (by omega)]
    rcases hd rfl with ⟨hg, rfl, h2, h3⟩ | ⟨hg, rfl⟩
    · refine ⟨fun _ => ⟨?_, h2, h3⟩, fun hf => by cases hf⟩
      rw [e, hg]; rfl
    · refine ⟨fun hf => (by cases hf), fun _ => ?_⟩
      rw [e, hg]; rfl
theorem own_len {w : World} {base k : Nat} {v : Value} {L : List Int} (h : w.ownsRow base 3 1 v k (ints L)) : L.length = k := by have := h.1; simpa [ints] using this
theorem packBV_le (L : List Int) : (packBV L).length ≤ 10000 := by
  unfold packBV
  split
  · rename_i h
    have h1 : L.length ≤ 120 := by
      unfold packEV at h
      split at h
      · cases h
      · omega
    have h2 := encV_le L L.length
    rw [bytesOf_length]; omega
  · simp
theorem uv_ok {w w4 : World} {l : List Nat} {m k : Nat} {L : List Int} {v : Value} (hm : unpackVE l m = (if (unpackV none l m).isSome then 0 else 5) ∧ unpackVL l m = (unpackV none l m).getD []) (hu : unpackV none l m = some L) (hL : L.length = k)
    (hb : Below w.heap.size w w4) (ho : w4.ownsRow w.heap.size 3 1 v k (ints L)) : UVPost w l m (.returned (.tuple #[v, .int .i64 0])) w4 := by
  subst hL
  refine ⟨v, ?_, ?_, hb⟩
  · rw [hm.1, hu]; rfl
  · rw [hm.2, hu]; exact ho
theorem uv_no {w w4 : World} {l : List Nat} {m : Nat} (hm : unpackVE l m = (if (unpackV none l m).isSome then 0 else 5) ∧ unpackVL l m = (unpackV none l m).getD []) (hu : unpackV none l m = none)
    (hb : Below w.heap.size w w4) : UVPost w l m (.returned (.tuple #[.slice none 0 0, .int .i64 5])) w4 := by
  refine ⟨.slice none 0 0, ?_, ?_, hb⟩
  · rw [hm.1, hu]; rfl
  · rw [hm.2, hu]; exact World.ownsRow_nil _ _ _ _

theorem xor_un (y : Int) (r : Nat) (hr : r < 18446744073709551616) : bits .xor .u64 (IntKind.u64.wrap y) (r : Int) = ((PV.un y ^^^ r : Nat) : Int) := by
  rw [u64_wrap_un, u64_xor_nat _ _ (un_lt _) hr]
theorem Run.next' {l : List Nat} {k p p2 r : Nat} {L : List Int} {win : Option (Nat × Nat)} {hi lo hi2 lo2 : Int} {sm bd sm2 b2 : Bool} (h : Run l k p L win hi lo sm bd) (hk : 0 < k) (hbad : bd = true → b2 = true)
    (hd : bd = false → (∃ win2, getX (bitsOf l) p win = some (r, p2, win2) ∧ b2 = false ∧ WinOk win2 hi2 lo2 sm2 ∧ OkW win2) ∨ (getX (bitsOf l) p win = none ∧ b2 = true)) :
    ∃ win2, Run l (k + 1) p2 (L ++ [wrap64 ((un (L.getD (k - 1) 0) ^^^ r : Nat) : Int)]) win2 hi2 lo2 sm2 b2 := by
  cases bd with
  | true => exact ⟨none, h.next hk hbad (fun hf => by cases hf)⟩
  | false =>
    rcases hd rfl with ⟨win2, hg⟩ | hg
    · exact ⟨win2, h.next hk hbad (fun _ => Or.inl hg)⟩
    · exact ⟨none, h.next hk hbad (fun _ => Or.inr hg)⟩
/-- What a round leaves in memory. -/
theorem vstep {w wr w2 w4 : World} {u g n c p k m : Nat} {A : Option Addr} {l : List Nat} {hi lo : Int} {sm bd : Bool} {v v' : Value} {xs ys : List Value} {X : Obj} (h2 : Uz w2 u g A n c l p hi lo sm bd) (hwu : w.heap.size ≤ g)
    (hown : wr.ownsRow (u + 1) 3 1 v k xs) (hbel : Below w.heap.size w wr) (k2 : Kp (fun x => x = g ∨ x = u) wr w2) (hgrow : (w2.alloc X).grownBy w4 v.ownBlock) (hown4 : w4.ownsRow (u + 1) 3 1 v' m ys) :
    Uz w4 u g A n c l p hi lo sm bd ∧ w4.ownsRow (u + 1) 3 1 v' m ys ∧ Below w.heap.size w w4 := by
  have hlt := h2.lt
  have k4 : Kp (fun x => u + 1 ≤ x) w2 w4 := ((Kp.refl _ w2).alloc _).grown hgrow (fun x _ hx => (hown.lt x hx).1)
  refine ⟨h2.kp k4 (fun x hx => by omega), hown4, ?_⟩
  have k5 : Kp (fun x => x = g ∨ x = u ∨ u + 1 ≤ x) wr w4 := (k2.mono (fun _ _ h => by rcases h with h | h; exact Or.inl h; exact Or.inr (Or.inl h))).trans k4 (fun _ _ h => Or.inr (Or.inr h))
  exact hbel.trans (k5.below hbel.size (fun x hx => by omega))
theorem own_gu {w w2 : World} {u g k : Nat} {v : Value} {xs : List Value} (hown : w.ownsRow (u + 1) 3 1 v k xs) (k2 : Kp (fun x => x = g ∨ x = u) w w2) (hlt : g < u) : w2.ownsRow (u + 1) 3 1 v k xs :=
  own_kp hown k2 (fun x hx h => by have := (hown.lt x hx).1; omega)

set_option maxRecDepth 100000 in
set_option maxHeartbeats 1000000 in
theorem vunpack_any (A : Option Addr) (n c B : Nat) (m : Int) (l : List Nat) (w : World) (hr : Rd w B A n (l.map bv)) (hB : B ≤ w.heap.size) (hn : n ≤ 1000000000) (hb : ∀ x ∈ l, x < 256) :
    Calls Try.prog 23 #[.slice A n c, .int .i64 m] w (UVPost w l m) := by
  obtain ⟨i0, hi, hz0, hz1, hz2⟩ := info_parts Try.vinfo3
  by_cases h120 : 120 < m
  · have HE : Hid (unpackVE l m = 2 ∧ unpackVL l m = []) := ⟨by unfold unpackVE; rw [if_pos h120], by unfold unpackVL; rw [if_pos h120]⟩
    go_enter Try.func23, Try.ntmps23
    go_wp2_with fail
    go_ret2
    exact ⟨.slice none 0 0, by rw [HE.out.1]; rfl, by rw [HE.out.2]; exact World.ownsRow_nil _ _ _ _, Below.refl _ _⟩
  · by_cases hneg : m < 0
    · have HE : Hid (unpackVE l m = 1 ∧ unpackVL l m = []) := ⟨by unfold unpackVE; rw [if_neg h120, if_pos hneg], by unfold unpackVL; rw [if_neg h120, if_pos hneg]⟩
      go_enter Try.func23, Try.ntmps23
      go_wp2_with fail
      go_ret2
      exact ⟨.slice none 0 0, by rw [HE.out.1]; rfl, by rw [HE.out.2]; exact World.ownsRow_nil _ _ _ _, Below.refl _ _⟩
    · obtain ⟨m, rfl⟩ := Int.eq_ofNat_of_zero_le (show 0 ≤ m by omega)
      have hm120 : m ≤ 120 := by omega
      have HM : Hid (unpackVE l m = (if (unpackV none l m).isSome then 0 else 5) ∧ unpackVL l m = (unpackV none l m).getD []) := by
        refine ⟨?_, ?_⟩
        · unfold unpackVE; rw [if_neg h120, if_neg hneg]; rfl
        · unfold unpackVL; rw [if_neg h120, if_neg hneg]; rfl
      have hq := newReader_any A n c B l w hr hB hn
      clear h120 hneg
      go_enter Try.func23, Try.ntmps23
      go_wp2_with fail
      refine hq.mono ?_
      rintro e w1 ⟨g, A', c', rfl, hrd, hbel, hg, hlow0⟩
      clear hq hlow0
      go_wp2_with fail
      obtain ⟨u, hu⟩ : ∃ u, u = w1.heap.size := ⟨_, rfl⟩
      have hz1' : Uz (w1.alloc (.cells #[.int .i64 0, .int .i64 0, .bool false, .pointer (some ⟨g, 0, none⟩), .bool false] 91)) u g A' n c' l 0 0 0 false false :=
        ⟨by rw [hu]; exact Arr.new _ _ _, hrd.alloc _, by rw [hu]; exact hrd.arr.lt⟩
      have hb0 : Below w.heap.size w (w1.alloc (.cells #[.int .i64 0, .int .i64 0, .bool false, .pointer (some ⟨g, 0, none⟩), .bool false] 91)) := hbel.alloc hbel.size _
      have hgu : g < u := hz1'.lt
      rw [← hu]
      clear hu hrd hbel
      go_loopw [7, 22] (fun v i wr => ∃ (k p : Nat) (L : List Int) (win : Option (Nat × Nat)) (hi lo : Int) (sm bd : Bool), k ≤ m ∧ i = .int .i64 k ∧ Hid (Run l k p L win hi lo sm bd) ∧ Uz wr u g A' n c' l p hi lo sm bd ∧ wr.ownsRow (u + 1) 3 1 v k (ints L) ∧ Below w.heap.size w wr) (fun _ i _ => m - (intOf i).toNat)
      case atStart => exact ⟨0, 0, [], none, 0, 0, false, false, Nat.zero_le _, rfl, Run.zero l, hz1', World.ownsRow_nil _ _ _ _, hb0⟩
      case round =>
        obtain ⟨k, p, L, win, hi', lo, sm, bd, hk, rfl, HRUN, huz, hown, hbel⟩ := hrel
        clear hz1' hb0
        have hL : L.length = k := own_len hown
        by_cases hlt : k < m
        · rcases Nat.eq_zero_or_pos k with h0 | h0
          · subst h0
            have hq := vtake_any u g n c' p 64 A' l hi' lo sm bd wr huz hn (by omega) hb
            go_wp2_with fail
            refine hq.mono ?_
            rintro e w2 ⟨v, p2, b2, rfl, h2, k2, d2⟩
            have hown2 := own_gu hown k2 hgu
            have HRUN2 := Lib.hid (HRUN.out.first d2)
            have HST := Lib.hid (And.intro h2 k2)
            have hus := h2.arr.lt
            clear hq d2 h2 k2
            go_wp2_with (at_builtin; refine wpList_append_lies _ rfl (.tmp 27) (.tmp 30) 23 rfl (u + 1) 3 i0 (.int .i64 0) 1 8 Try.underlying23 hi hz0 hz1 hz2 rfl (by decide) u7 0 (ints L) rfl (hown2.alloc _) ⟨w2.heap.size, 0, none⟩ 1 1 [.int .i64 v] rfl rfl (cell_one_new w2 _ 3) (by simp [Value.oneCell']) (by omega) (by unfold maxLen; omega) (by omega) (by simp; omega) (w2.heap.size + 1) (by simp) ?_; intro gg cap w4 hown4 hgrow hat hlt2)
            obtain ⟨q1, q2, q3⟩ := vstep HST.out.1 hg hown hbel HST.out.2 hgrow (ys := ints (L ++ [v])) (by simpa [ints] using hown4)
            go_roundw
            case rel => exact ⟨1, p2, L ++ [v], win, hi', lo, sm, b2, by omega, by go_num, HRUN2.out, q1, q2, q3⟩
            case measure => simp [intOf]; omega
          · obtain ⟨r, cap, cur, rfl, _, har, hcap, _⟩ := own_form hown h0
            obtain ⟨y, hy⟩ : ∃ y, y = L.getD (k - 1) 0 := ⟨_, rfl⟩
            have hyc : wr.cell? ⟨r, k - 1, none⟩ = some (.int .i64 y) := by
              refine own_cell hown ?_
              rw [hy]
              simp [ints, List.getD, show k - 1 < L.length by omega]
            have hrg : u + 1 ≤ r := (hown.lt r rfl).1
            have HQ := Lib.hid (vget_any u g n c' p A' l hi' lo sm bd win wr.drew huz.drew hn hb (fun hf => ⟨(HRUN.out.1 hf).2.1, (HRUN.out.1 hf).2.2⟩))
            have HRUN2 : Hid (∀ (p2 rr : Nat) (hi2 lo2 : Int) (sm2 b2 : Bool), (bd = true → b2 = true) → (bd = false → (∃ win2, getX (bitsOf l) p win = some (rr, p2, win2) ∧ b2 = false ∧ WinOk win2 hi2 lo2 sm2 ∧ OkW win2) ∨ (getX (bitsOf l) p win = none ∧ b2 = true)) → ∃ win2, Run l (k + 1) p2 (L ++ [wrap64 ((PV.un y ^^^ rr : Nat) : Int)]) win2 hi2 lo2 sm2 b2) := by
              intro p2 rr hi2 lo2 sm2 b2 h1 h2
              rw [hy]
              exact HRUN.out.next' h0 h1 h2
            have HOWN := Lib.hid hown
            have HAR := Lib.hid har
            have HY := Lib.hid hy
            have hA0 : 0 < 1 := by decide
            have hA2 : k + 1 ≤ maxLen := by unfold maxLen; omega
            have hA3 : (k + 1) * 8 ≤ 140737488355328 := by omega
            have hk1 : IntKind.i64.wrap ((k : Int) - 1) = (k : Int) - 1 := IntWalk.i64_in _ (by omega)
            have hk2 : (0 : Int) ≤ (k : Int) - 1 := by omega
            have hk5 : (1 : Int) ≤ (k : Int) := by omega
            have hk3 : (k : Int) - 1 < (k : Int) := by omega
            have hk4 : ((k : Int) - 1).toNat = k - 1 := by omega
            clear hy hown har huz hL
            go_wp2_with fail
            go_region_law (first | (refine step_append_lies _ (by rfl) _ _ _ (by rfl) (u + 1) 3 i0 _ 1 8 Try.underlying23 hi hz0 hz1 hz2 rfl hA0 (.slice (some ⟨r, 0, none⟩) k cap) k (ints L) (by rfl) (HO2.out.alloc _) ⟨w2.heap.size, 0, none⟩ 1 1 [.int .i64 x] (by rfl) (by rfl) (cell_one_new w2 _ 3) (by simp [Value.oneCell']) hA0 hA2 hA3 (hbs2 _) (w2.heap.size + 1) (by simp) ?_; intro gg cap_1 w4 hown4 hgrow hat hlt2) | (go_simp; go_at_call 53; refine HQ.out.mono ?_; rintro r0 w2 ⟨rr, p2, hi2, lo2, sm2, b2, rfl, hrr, h2, k2, hbad, hd⟩; have HO2 : Hid (w2.ownsRow (u + 1) 3 1 (.slice (some ⟨r, 0, none⟩) k cap) k (ints L)) := own_gu (w := wr.drew) HOWN.out k2 hgu; have ey2 : w2.cell? ⟨r, k - 1, none⟩ = some (.int .i64 y) := (World.cell?_of_block (w := wr) (a := ⟨r, k - 1, none⟩) (k2.block r HAR.out.lt (by omega))).trans hyc; have HST := Lib.hid (And.intro h2 (And.intro k2 (And.intro hbad hd))); have hbs2 : ∀ X : Obj, u + 1 ≤ (w2.alloc X).heap.size := (fun X => by simp; have := h2.arr.lt; omega); clear h2 k2 hbad hd; have hxor := xor_un y rr hrr; obtain ⟨x, hx⟩ : ∃ x, x = wrap64 ((PV.un y ^^^ rr : Nat) : Int) := ⟨_, rfl⟩; have hwx : IntKind.i64.wrap ((PV.un y ^^^ rr : Nat) : Int) = x := (by rw [hx, IntKind.wrap_i64]; unfold wrap64; omega); have HX := Lib.hid hx; clear hx))
            clear hk1 hk2 hk3 hk4 hk5
            all_goals
              obtain ⟨q1, q2, q3⟩ := vstep (wr := wr.drew) HST.out.1 hg HOWN.out hbel.drew HST.out.2.1 hgrow (ys := ints (L ++ [x])) (by simpa [ints] using hown4)
              have hrn := HRUN2.out p2 rr hi2 lo2 sm2 b2 HST.out.2.2.1 HST.out.2.2.2
              rw [← HX.out] at hrn
              obtain ⟨win2, hrun⟩ := hrn
              have HRUN3 := Lib.hid hrun
              clear hown4 hgrow hat hlt2 hxor hwx ey2 hrun
              go_wp2_with fail
              go_roundw
              case rel => exact ⟨k + 1, p2, L ++ [x], win2, hi2, lo2, sm2, b2, by omega, by go_num, HRUN3.out, q1, q2, q3⟩
              case measure => simp [intOf]; omega
        · obtain rfl : k = m := by omega
          obtain ⟨A2, c2', rfl, hrL, _⟩ := Rd.of_own hown
          have hp := vpack_any A2 k c2' wr.heap.size L wr hrL (Nat.le_refl _) (by omega)
          have HFA : Hid (wr.ownsRow w.heap.size 3 1 (.slice A2 k c2') k (ints L)) := own_base hown (by omega)
          have hE : packEV L = 0 := by unfold packEV; rw [if_neg (by omega)]
          unfold VPost at hp
          rw [hE] at hp
          have HE := Lib.hid hE
          have HLN := Lib.hid hL
          have HBEL := Lib.hid hbel
          have HR0 : Hid (Rd w B A n (l.map bv)) := hr
          have HUZ := Lib.hid huz
          clear hE hown hL hr huz
          go_wp2_with fail
          refine hp.mono ?_
          rintro r0 w2 ⟨v2, rfl, hown2, hb2⟩
          obtain ⟨A3, c3, rfl, hr3, _⟩ := Rd.of_own hown2
          have hbl : (packBV L).length ≤ 10000 := packBV_le L
          have hq := equal_any A3 A (packBV L).length c3 w2.heap.size n c B (packBV L) l w2 hr3 (HR0.out.below ((HBEL.out.trans (hb2.mono HBEL.out.size)).mono hB)) (by omega) hn
          have e1 := (HUZ.out.below hb2).arr
          have c4 := e1.at_ (i := 4) rfl
          have HO2 : Hid (w2.ownsRow w.heap.size 3 1 (.slice A2 k c2') k (ints L)) := own_kp HFA.out (Kp.none_of_below (S := fun _ => False) hb2) (fun _ _ h => h)
          have HB2 : Hid (Below w.heap.size w w2) := HBEL.out.trans (hb2.mono HBEL.out.size)
          clear hp hown2 hr3 hbl hb2 hbel hrL e1
          cases bd with
          | true =>
            have HU2 : Hid (unpackV none l k = none) := by show _ = _; unfold unpackV; rw [HRUN.out.2 rfl]; rfl
            go_wp2_with fail
            go_ret2
            exact uv_no HM.out HU2.out HB2.out
          | false =>
            have hU : unpackV none l k = if packEV L = 0 ∧ packBV L = l then some L else none := by
              unfold unpackV; rw [(HRUN.out.1 rfl).1]; rfl
            have HU := Lib.hid hU
            clear hU
            by_cases heq : packBV L = l
            · rw [decide_eq_true heq] at hq
              have HU2 : Hid (unpackV none l k = some L) := by show _ = _; rw [HU.out, if_pos ⟨HE.out, heq⟩]
              clear heq
              go_wp2_with fail
              refine hq.mono ?_
              rintro r0 w3' ⟨rfl, j, rfl⟩
              have HF : Hid (UVPost w l k (.returned (.tuple #[.slice A2 k c2', .int .i64 0])) (w2.drewN j)) :=
                uv_ok HM.out HU2.out HLN.out (Kp.below ((Kp.of_below HB2.out).drewN j) (Nat.le_refl _) (fun x hx => by omega)) HO2.out
              go_wp2_with fail
              go_ret2
              exact HF.out
            · rw [decide_eq_false heq] at hq
              have HU2 : Hid (unpackV none l k = none) := by show _ = _; rw [HU.out, if_neg (fun h => heq h.2)]
              clear heq
              go_wp2_with fail
              refine hq.mono ?_
              rintro r0 w3' ⟨rfl, j, rfl⟩
              have HF : Hid (UVPost w l k (.returned (.tuple #[.slice none 0 0, .int .i64 5])) (w2.drewN j)) :=
                uv_no HM.out HU2.out (Kp.below ((Kp.of_below HB2.out).drewN j) (Nat.le_refl _) (fun x hx => by omega))
              go_wp2_with fail
              go_ret2
              exact HF.out
end Go.Proofs.Ytnbamngancchmaa
