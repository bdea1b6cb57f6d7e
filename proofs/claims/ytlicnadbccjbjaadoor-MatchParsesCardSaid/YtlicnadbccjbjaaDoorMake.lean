/- What labels.Make answers: all labels in their order, in new memory, or that they can't be. Conditions: texts of at most 10^6 bytes. -/
import Derived.Test.YtlicnadbccjbjaaDoorName
import Derived.Deep.QuietTactic
import Derived.WalkMore
import Derived.Maps.AppendAt
import Derived.Deep.RegionHeld3
namespace Go.Proofs.YtlicnadbccjbjaaDoor
open Go.RowKit LB

theorem Tryd.info37 : (Tryd.prog.info? 37).map (fun i => (i.zero, i.size, i.bytes)) = some (some (.agg #[.string ⟨#[]⟩, .string ⟨#[]⟩]), 2, 32) := by kernel_rfl
theorem two_cells (w : World) (x y : Value) (t : TypeId) : ∀ j v, [x, y][j]? = some v → (w.alloc (.cells #[x, y] t)).cell? ((⟨w.heap.size, 0, none⟩ : Addr).add j) = some v := by
  intro j v hv
  have e : (⟨w.heap.size, 0, none⟩ : Addr).add j = ⟨w.heap.size, 0 + j, none⟩ := by unfold Addr.add; split <;> simp_all
  rw [e, Nat.zero_add]
  refine (Arr.new w t #[x, y]).at_ ?_
  simpa using hv
theorem below_drewN {B : Nat} {w w' : World} (h : Below B w w') (n : Nat) : Below B w (w'.drewN n) := ⟨h.os, h.tape, h.output, h.size, h.block⟩
/-- What is made, or nothing. -/
def mkR (l : List Lab) : List Lab := (mkL l).getD []
def mkE (l : List Lab) : Int := if mkL l = none then 20 else 0
/-- What Make answers. -/
def MPost (w : World) (l : List Lab) (r : Ending) (w' : World) : Prop :=
  ∃ v, r = .returned (.tuple #[v, .int .i64 (mkE l)]) ∧ w'.ownsRow w.heap.size 37 2 v (mkR l).length (lv (mkR l)) ∧ Below w.heap.size w w'
theorem mpost_none {w w' : World} {l : List Lab} (h : mkL l = none) (hb : Below w.heap.size w w') : MPost w l (.returned (.tuple #[.slice none 0 0, .int .i64 20])) w' := by
  refine ⟨_, by unfold mkE; rw [if_pos h], ?_, hb⟩
  unfold mkR
  rw [h]
  exact World.ownsRow_nil _ _ _ _

set_option maxRecDepth 100000 in
set_option maxHeartbeats 4000000 in
theorem make_any (A : Option Addr) (n c B : Nat) (l : List Lab) (w : World) (hr : Lv w B A n l) (hB : B ≤ w.heap.size) :
    Calls Tryd.prog 25 #[.slice A n c] w (MPost w l) := by
  obtain ⟨i0, hi, hz0, hz1, hz2⟩ := info_parts Tryd.info37
  have hln := hr.1
  by_cases h0 : n = 0
  · have hm : mkL l = none := by unfold mkL; rw [if_pos (.inl (by omega))]
    subst h0
    go_enter Tryd.func25, Tryd.ntmps25
    go_wp2_with fail
    go_ret2
    exact mpost_none hm (Below.refl _ _)
  · by_cases h16 : n ≤ 16
    · have d0 : (((n : Nat) : Int) == 0) = false := by rw [beq_eq_false_iff_ne]; omega
      have d16 : decide (16 < ((n : Nat) : Int)) = false := decide_eq_false (by omega)
      go_enter Tryd.func25, Tryd.ntmps25
      go_wp2_with (at_make; refine wpList_make_own _ rfl _ _ 22 rfl w.heap.size 37 i0 _ 2 Tryd.underlying22 hi hz0 hz1 .i64 .i64 _ n rfl rfl rfl (by rw [hz2]; omega) (by unfold maxLen; omega) (Nat.le_refl _) ?_; intro w0 hown0 hgrow0)
      have hb0 : Below w.heap.size w w0 := (Below.refl _ w).grown hgrow0 (Nat.le_refl _) (fun k hk => by cases hk)
      have hmk : mkL l = foldL l := by unfold mkL; rw [if_neg (by omega)]
      have HMK := Lib.hid hmk
      clear hmk hgrow0
      go_loopw [4, 22] (fun o i wr => ∃ (k : Nat) (m : List Lab), k ≤ n ∧ i = .int .i64 k ∧ foldL (l.take k) = some m ∧ wr.ownsRow w.heap.size 37 2 o k (lv m) ∧ Below w.heap.size w wr) (fun _ i _ => n - (intOf i).toNat)
      case atStart => exact ⟨0, [], Nat.zero_le _, rfl, rfl, hown0, hb0⟩
      case round =>
        obtain ⟨k, m, hk, rfl, hf, hown, hb⟩ := hrel
        clear hown0 hb0
        by_cases hlt : k < n
        · obtain ⟨x, hx⟩ : ∃ x, l[k]? = some x := ⟨_, List.getElem?_eq_getElem (by omega)⟩
          obtain ⟨b, off, rfl, hbB, hcc⟩ := (hr.below (hb.mono hB)).at2 hlt
          obtain ⟨c0, c1⟩ := hcc k x hx
          obtain ⟨xn, xv⟩ := x
          have hfs : foldL (l.take (k + 1)) = stepL (foldL (l.take k)) (xn, xv) := by
            rw [foldL_take (by omega)]
            congr 1
            rw [List.getElem?_eq_getElem (by omega)] at hx
            injection hx
          rw [hf] at hfs
          have HF := Lib.hid hfs
          have HFK := Lib.hid hf
          have hs := hb.size
          have hnm := name_any xn (wr.alloc (.cells #[.string xn, .string xv] 37))
          clear hcc hfs hx hf
          by_cases hok : labOK (xn, xv) = true
          · have hok2 := hok
            unfold labOK at hok2
            simp only [Bool.and_eq_true, decide_eq_true_eq] at hok2
            obtain ⟨⟨hn1, hv0⟩, hv64⟩ := hok2
            rw [hn1] at hnm
            have he := not_empty (s := xv) (by omega)
            have d64 : decide (64 < ((xv.size : Nat) : Int)) = false := decide_eq_false (by omega)
            go_wp2_with fail
            go_step3
            go_wp2_with (first | (go_at_call 42; refine hnm.mono ?_; rintro e w2 ⟨rfl, hb2⟩; have ax := (Arr.new wr 37 #[.string xn, .string xv]).below hb2 (by simp); have x0 := ax.at_ (i := 0) (v := .string xn) rfl; have x1 := ax.at_ (i := 1) (v := .string xv) rfl; have hk2 := ((Kp.refl (fun _ => False) wr).alloc (.cells #[.string xn, .string xv] 37)).trans (Kp.none_of_below (S := fun _ => False) hb2) (fun _ _ h => h); have hown2 := own_kp hown hk2 (fun _ _ h => h)) | (at_builtin; refine wpList_append_own_at _ rfl (.tmp 41) (.tmp 43) 22 rfl w.heap.size 37 i0 _ 2 32 Tryd.underlying22 hi hz0 hz1 hz2 rfl (by decide) u4 k (lv m) rfl (hown2.alloc _) ⟨w2.heap.size, 0, none⟩ 1 1 [.string xn, .string xv] rfl rfl (two_cells w2 _ _ 37) (by simp [Value.oneCell']) (by unfold maxLen; omega) (by omega) (by have := hk2.size; simp; omega) ?_; intro v4 w4 hown4 hg4 _ hat4; obtain ⟨r, cap, cur, rfl, _⟩ := own_form hown4 (by omega)))
            have hown5 : w4.ownsRow w.heap.size 37 2 (.slice (some ⟨r, 0, none⟩) (k + 1) cap) (k + 1) (lv (m ++ [(xn, xv)])) := by rw [lv_append]; exact hown4
            have hb4 : Below w.heap.size w w4 := ((hb.trans ((hk2.below hs (fun _ _ h => h)))).alloc (Nat.le_trans hs hk2.size) _).grown hg4 (by have := hk2.size; simp; omega) (fun y hy => (hown2.lt y hy).1)
            have hml : m.length = k := by have := hown.1; rw [lv_len] at this; omega
            clear hnm ax x0 x1 hk2 hown2 hg4 hat4 hown4 hb2 c0 c1 hown hb he d64
            go_step3
            go_wp2_with fail
            have hup := (foldL_up (l := l.take k) (m := m) HFK.out).1
            have HUP := Lib.hid hup
            have HF2 : Hid (foldL (l.take (k + 1)) = insL m (xn, xv)) := by
              show _ = _
              rw [HF.out]; unfold stepL; rw [Option.bind_some, if_pos hok]
            clear hup
            go_loopw [7] (fun i wb => ∃ (pre post : List Lab), i = .int .i64 pre.length ∧ pre ++ post = m ∧ (∀ y ∈ post, lt xn y.1 = true) ∧ wb.ownsRow w.heap.size 37 2 (.slice (some ⟨r, 0, none⟩) (k + 1) cap) (k + 1) (lv (pre ++ (xn, xv) :: post)) ∧ Below w.heap.size w wb) (fun i _ => (intOf i).toNat)
            case atStart => exact ⟨m, [], by rw [hml], by simp, by simp, hown5, hb4⟩
            case round =>
              obtain ⟨pre, post, rfl, hpm, hpost, hoi, hbi⟩ := hrel
              clear hown5 hb4
              rcases List.eq_nil_or_concat pre with rfl | ⟨p, y, hpy⟩
              · have hin : foldL (l.take (k + 1)) = some ((xn, xv) :: post) := by
                  rw [HF2.out, ← hpm]; exact insL_mid (pre := []) (by simp) hpost
                go_wp2_with fail
                rw [Exit.noGoto_normal]
                go_wp2_with fail
                go_roundw
                case rel => exact ⟨k + 1, (xn, xv) :: post, by omega, by go_num, hin, hoi, hbi⟩
                case measure => simp [intOf]; omega
              · rw [List.concat_eq_append] at hpy
                subst hpy
                have hyp : ∀ z ∈ p, lt z.1 y.1 = true := by
                  have h := HUP.out
                  rw [← hpm, List.append_assoc] at h
                  intro z hz
                  exact (List.pairwise_append.1 h).2.2 z hz y (by simp)
                have hlen : (p ++ [y]).length = p.length + 1 := by simp
                have hlt2 : p.length + 1 ≤ k := by rw [← hml, ← hpm]; simp
                obtain ⟨y0, y1⟩ := own_lab hoi (k := p.length) (x := y) (by simp)
                obtain ⟨x0, x1⟩ := own_lab hoi (k := p.length + 1) (x := (xn, xv)) (by simp)
                rw [hlen]
                obtain ⟨yn, yv⟩ := y
                rcases lt_tri yn xn with h | h | h
                · have hc : c3 yn xn = -1 := by simp [c3, h]
                  have hq : ∀ W, Calls Tryd.prog 43 #[.string yn, .string xn] W fun e w' => e = .returned (.int .i64 (-1)) ∧ w' = W := fun W => by have := cmp26 yn xn W; rwa [hc] at this
                  have hin : foldL (l.take (k + 1)) = some (p ++ [(yn, yv)] ++ (xn, xv) :: post) := by
                    rw [HF2.out, ← hpm]
                    refine insL_mid (fun z hz => ?_) hpost
                    rcases List.mem_append.1 hz with hz | hz
                    · exact lt_trans (hyp z hz) h
                    · simp at hz; rw [hz]; exact h
                  have HIN := Lib.hid (And.intro hin (And.intro hoi hbi))
                  clear hin hoi hc
                  go_wp2_with fail
                  go_quiet ((go_at_call 43; exact Calls.quiet_of_same (hq _)))
                  go_wp2_with fail
                  rw [Exit.noGoto_normal]
                  go_wp2_with fail
                  go_roundw
                  case rel => exact ⟨k + 1, _, by omega, by go_num, HIN.out.1, HIN.out.2.1, below_drewN HIN.out.2.2 _⟩
                  case measure => simp [intOf]; omega
                · subst h
                  have hq : ∀ W, Calls Tryd.prog 43 #[.string yn, .string yn] W fun e w' => e = .returned (.int .i64 0) ∧ w' = W := fun W => by have := cmp26 yn yn W; rwa [c3_self] at this
                  have hmn : mkL l = none := by
                    rw [HMK.out]
                    refine foldL_stuck (k := k + 1) ?_
                    rw [HF2.out, ← hpm, List.append_assoc]
                    exact insL_same hyp rfl
                  have HIN := Lib.hid (And.intro hmn hbi)
                  clear hoi hmn
                  go_wp2_with fail
                  go_quiet ((go_at_call 43; exact Calls.quiet_of_same (hq _)))
                  go_wp2_with fail
                  rw [Exit.noGoto_ret]
                  go_ret2
                  exact mpost_none HIN.out.1 (below_drewN HIN.out.2 _)
                · have hc : c3 yn xn = 1 := by simp [c3, h, lt_asymm h]
                  have hq : ∀ W, Calls Tryd.prog 43 #[.string yn, .string xn] W fun e w' => e = .returned (.int .i64 1) ∧ w' = W := fun W => by have := cmp26 yn xn W; rwa [hc] at this
                  have HO := Lib.hid hoi
                  have f0 := own_frozen hoi (p.length * 2)
                  have f1 := own_frozen hoi (p.length * 2 + 1)
                  have f2 := own_frozen hoi ((p.length + 1) * 2)
                  have f3 := own_frozen hoi ((p.length + 1) * 2 + 1)
                  clear hoi hc
                  go_wp2_with fail
                  go_quiet ((go_at_call 43; exact Calls.quiet_of_same (hq _)))
                  go_wp2_with fail
                  obtain ⟨W5, hW5⟩ : ∃ W5, W5 = wr.drewN nq := ⟨_, rfl⟩
                  have HO5 : Hid (W5.ownsRow w.heap.size 37 2 (.slice (some ⟨r, 0, none⟩) (k + 1) cap) (k + 1) (lv (p ++ [(yn, yv)] ++ (xn, xv) :: post)) ∧ Below w.heap.size w W5) := by
                    rw [hW5]; exact ⟨HO.out, below_drewN hbi _⟩
                  have a0 : W5.cell? ⟨r, p.length * 2, none⟩ = some (.string yn) := by rw [hW5]; exact y0
                  have a1 : W5.cell? ⟨r, p.length * 2 + 1, none⟩ = some (.string yv) := by rw [hW5]; exact y1
                  have a2 : W5.cell? ⟨r, (p.length + 1) * 2, none⟩ = some (.string xn) := by rw [hW5]; exact x0
                  have a3 : W5.cell? ⟨r, (p.length + 1) * 2 + 1, none⟩ = some (.string xv) := by rw [hW5]; exact x1
                  have g0 : W5.frozen? ⟨r, p.length * 2, none⟩ = false := by rw [hW5]; exact f0
                  have g1 : W5.frozen? ⟨r, p.length * 2 + 1, none⟩ = false := by rw [hW5]; exact f1
                  have g2 : W5.frozen? ⟨r, (p.length + 1) * 2, none⟩ = false := by rw [hW5]; exact f2
                  have g3 : W5.frozen? ⟨r, (p.length + 1) * 2 + 1, none⟩ = false := by rw [hW5]; exact f3
                  rw [← hW5]
                  clear hW5 y0 y1 x0 x1 f0 f1 f2 f3 hq
                  go_region
                  go_wp2_with fail
                  go_roundw
                  case rel =>
                    refine ⟨p, (yn, yv) :: post, by go_num, by rw [← hpm]; simp, fun z hz => ?_, ?_, ?_⟩
                    · rcases List.mem_cons.1 hz with rfl | hz
                      · exact h
                      · exact hpost z hz
                    · have h1 := own_setL HO5.out.1 (k := p.length) (xn, xv) (by simp)
                      have h2 := own_setL h1 (k := p.length + 1) (yn, yv) (by simp)
                      have e : ((p ++ [(yn, yv)] ++ (xn, xv) :: post).set p.length (xn, xv)).set (p.length + 1) (yn, yv) = p ++ (xn, xv) :: (yn, yv) :: post := by simp
                      rw [e] at h2
                      exact h2
                    · have hrr := (HO5.out.1.lt r rfl).1
                      exact ((((HO5.out.2.setCell (p := ⟨r, p.length * 2, none⟩) hrr _).setCell (p := ⟨r, p.length * 2 + 1, none⟩) hrr _).setCell (p := ⟨r, (p.length + 1) * 2, none⟩) hrr _).setCell (p := ⟨r, (p.length + 1) * 2 + 1, none⟩) hrr _).drew
                  case measure => simp [intOf]
          · have hmn : mkL l = none := by
              rw [HMK.out]
              refine foldL_stuck (k := k + 1) ?_
              rw [HF.out]
              unfold stepL
              rw [Option.bind_some, if_neg hok]
            have HM := Lib.hid hmn
            clear hmn
            cases hn1 : nameB xn with
            | false =>
              rw [hn1] at hnm
              go_wp2_with fail
              go_step3
              go_wp2_with (go_at_call 42; refine hnm.mono ?_; rintro e w2 ⟨rfl, hb2⟩)
              rw [Exit.noGoto_ret]
              go_ret2
              exact mpost_none HM.out ((hb.alloc hs _).trans (hb2.mono (by simp; omega)))
            | true =>
              rw [hn1] at hnm
              by_cases hv0 : xv.size = 0
              · obtain rfl := (empty_iff xv).1 hv0
                go_wp2_with fail
                go_step3
                go_wp2_with (go_at_call 42; refine hnm.mono ?_; rintro e w2 ⟨rfl, hb2⟩; have ax := (Arr.new wr 37 #[.string xn, .string ⟨#[]⟩]).below hb2 (by simp); have x0 := ax.at_ (i := 0) (v := .string xn) rfl; have x1 := ax.at_ (i := 1) (v := .string ⟨#[]⟩) rfl)
                rw [Exit.noGoto_ret]
                go_ret2
                exact mpost_none HM.out ((hb.alloc hs _).trans (hb2.mono (by simp; omega)))
              · have he := not_empty hv0
                have hv64 : 64 < xv.size := by
                  refine Nat.lt_of_not_le fun hle => hok ?_
                  unfold labOK
                  simp [hn1, hle, Nat.pos_of_ne_zero hv0]
                have d64 : decide (64 < ((xv.size : Nat) : Int)) = true := decide_eq_true (by omega)
                clear hok
                go_wp2_with fail
                go_step3
                go_wp2_with (go_at_call 42; refine hnm.mono ?_; rintro e w2 ⟨rfl, hb2⟩; have ax := (Arr.new wr 37 #[.string xn, .string xv]).below hb2 (by simp); have x0 := ax.at_ (i := 0) (v := .string xn) rfl; have x1 := ax.at_ (i := 1) (v := .string xv) rfl)
                rw [Exit.noGoto_ret]
                go_ret2
                exact mpost_none HM.out ((hb.alloc hs _).trans (hb2.mono (by simp; omega)))
        · obtain rfl : k = n := by omega
          have hall : l.take k = l := by rw [← hln]; exact List.take_length
          rw [hall] at hf
          have hfin : mkL l = some m := by rw [HMK.out, hf]
          have hml : m.length = k := by have := hown.1; rw [lv_len] at this; omega
          go_wp2_with fail
          go_ret2
          refine ⟨u4, by unfold mkE; rw [hfin]; rfl, ?_, hb⟩
          unfold mkR
          rw [hfin]
          show wr.ownsRow w.heap.size 37 2 u4 m.length (lv m)
          rw [hml]; exact hown
    · have hm : mkL l = none := by unfold mkL; rw [if_pos (.inr (by omega))]
      have d0 : (((n : Nat) : Int) == 0) = false := by rw [beq_eq_false_iff_ne]; omega
      have d16 : decide (16 < ((n : Nat) : Int)) = true := decide_eq_true (by omega)
      go_enter Tryd.func25, Tryd.ntmps25
      go_wp2_with fail
      go_ret2
      exact mpost_none hm (Below.refl _ _)
end Go.Proofs.YtlicnadbccjbjaaDoor
