/- What the reference's MatchText answers: as match.Text. Conditions: sizes within the form's reach. -/
import Derived.Test.YtlicnadbccjbjaaDoorEplain
import Derived.Test.YtlicnadbccjbjaaDoorDrtext
import Derived.Deep.CutRange
namespace Go.Proofs.YtlicnadbccjbjaaDoor
open Go.RowKit LB

theorem join_snoc (a : List UInt8) : ∀ l : List (List UInt8), Lib.join (l ++ [a]) [44] = Lib.join l [44] ++ ((if l = [] then [] else [44]) ++ a)
  | [] => by simp [join_one, Lib.join]
  | [b] => by rw [List.singleton_append, join_cons, join_one, join_one]; simp
  | b :: c :: r => by
    have ih := join_snoc a (c :: r)
    rw [List.cons_append, List.cons_append, join_cons, ← List.cons_append, ih, join_cons]
    simp
/-- The text when k are done. -/
def rT (m : List Mat) (k : Nat) : List UInt8 := Lib.join (mTo m k) [44]
theorem rT_zero (m : List Mat) : rT m 0 = [] := by unfold rT mTo; simp [Lib.join]
theorem rT_succ {m : List Mat} {k : Nat} {x : Mat} (h : m[k]? = some x) : rT m (k + 1) = rT m k ++ ((if k = 0 then [] else [44]) ++ mitem x) := by
  obtain ⟨hk, _⟩ := List.getElem?_eq_some_iff.1 h
  unfold rT
  rw [mTo_succ h, join_snoc]
  congr 2
  by_cases h0 : k = 0
  · subst h0; simp [mTo]
  · rw [if_neg h0, if_neg]
    intro e
    have h1 : (mTo m k).length = k := by unfold mTo; rw [List.length_map, List.length_take]; omega
    rw [e] at h1
    exact h0 h1.symm
theorem rT_len {m : List Mat} (h : ∀ x ∈ m, matOK x = true) (k : Nat) : (rT m k).length ≤ 301 * k := by
  have h1 := join_len (mTo m k) (fun x hx => by
    obtain ⟨y, hy, rfl⟩ := List.mem_map.1 hx
    exact mitem_len (h y (List.mem_of_mem_take hy)))
  have h2 : (mTo m k).length ≤ k := by unfold mTo; rw [List.length_map, List.length_take]; omega
  unfold rT
  have : 301 * (mTo m k).length ≤ 301 * k := Nat.mul_le_mul_left _ h2
  omega

set_option maxRecDepth 100000 in
set_option maxHeartbeats 4000000 in
theorem rmtext20 (A : Option Addr) (n c B : Nat) (l : List Mat) (w : World) (hr : Mv w B A n l) (hB : B ≤ w.heap.size) :
    Calls Tryd.prog 20 #[.slice A n c] w fun e w' => e = .returned (.string (bs (mtextL l))) ∧ Below w.heap.size w w' := by
  have hck := fun W (h : Mv W B A n l) => rcheck20 A n c B l W h
  by_cases h0 : chkE l = 0
  · have hck := hck w hr
    rw [h0] at hck
    have hok := (chk_mem h0).2
    have hn8 : n ≤ 8 := by have h1 := (chk_mem h0).1; have h2 := hr.1; omega
    have HOK := Lib.hid (And.intro h0 hok)
    have HCK := Lib.hid hck
    clear hck hok
    by_cases hn0 : n = 0
    · have hl : l = [] := List.eq_nil_of_length_eq_zero (by rw [hr.1]; exact hn0)
      have hm : mtextL l = [42] := by unfold mtextL; rw [if_neg (by rw [h0]; simp), if_pos hl]
      have HM := Lib.hid hm
      have e0 : (((n : Nat) : Int) == 0) = true := by rw [hn0]; rfl
      clear hm hl hn0 h0
      go_enter Tryd.func20, Tryd.ntmps20
      go_wp2_with fail
      refine HCK.out.mono ?_
      rintro e w1 ⟨rfl, hw1⟩; rw [hw1]; clear hw1 w1
      go_wp2_with fail
      go_ret
      exact ⟨by rw [HM.out]; rfl, Below.refl _ _⟩
    · have hl : l ≠ [] := by intro h; rw [h] at hr; exact hn0 hr.1.symm
      have hm : mtextL l = Lib.join (l.map mitem) [44] := by unfold mtextL; rw [if_neg (by rw [h0]; simp), if_neg hl]
      have HM := Lib.hid hm
      have e0 : (((n : Nat) : Int) == 0) = false := by rw [beq_eq_false_iff_ne]; omega
      clear hm hl h0
      go_enter Tryd.func20, Tryd.ntmps20
      go_wp2_with fail
      refine HCK.out.mono ?_
      rintro e w1 ⟨rfl, hw1⟩; rw [hw1]; clear hw1 w1
      go_wp2_with fail
      go_loopw [3, 4] (fun t i wr => ∃ k : Nat, k ≤ n ∧ i = .int .i64 k ∧ t = .string (bs (rT l k)) ∧ Below w.heap.size w wr) (fun _ i _ => n - (intOf i).toNat)
      case atStart => exact ⟨0, Nat.zero_le _, rfl, by rw [rT_zero]; rfl, Below.refl _ _⟩
      case round =>
        obtain ⟨k, hk, rfl, rfl, hb⟩ := hrel
        have hs := hb.size
        have hsl := rT_len HOK.out.2 k
        obtain ⟨T, hT⟩ : ∃ T : ByteArray, T = bs (rT l k) := ⟨_, rfl⟩
        have hTs : T.size ≤ 301 * k := by rw [hT, bs_size]; exact hsl
        rw [← hT]
        have HT := Lib.hid hT
        clear hsl hT
        by_cases hlt : k < n
        · obtain ⟨x, hx⟩ : ∃ x, l[k]? = some x := ⟨_, List.getElem?_eq_getElem (by rw [hr.1]; exact hlt)⟩
          obtain ⟨b, off, rfl, hbb, hcc⟩ := (hr.below (hb.mono hB)).at3 hlt
          obtain ⟨p0, p1, p2⟩ := hcc k x hx
          have hxok := HOK.out.2 x (List.mem_of_getElem? hx)
          have hrs := rT_succ hx
          obtain ⟨kd, nm, vl⟩ := x
          obtain ⟨z1, z2, z3, z4⟩ := ok_sizes hxok
          have zk : (k : Int) < (n : Int) := by omega
          have zk0 : (0 : Int) ≤ (k : Int) := by omega
          have zn0 : (0 : Int) ≤ (n : Int) := by omega
          have hq := fun W => quoted29 vl W (by omega)
          obtain ⟨QT, hQT⟩ : ∃ QT : ByteArray, QT = ⟨(quoteL vl).toArray⟩ := ⟨_, rfl⟩
          have hQTs : QT.size ≤ 194 := by
            rw [hQT]
            show (quoteL vl).length ≤ 194
            have := quoteL_len vl; omega
          simp only [← hQT] at hq
          have HQ := Lib.hid hq
          have HQT := Lib.hid hQT
          clear hq hcc hx hxok hQT
          have hcase : ∃ P0 : ByteArray, P0.size ≤ 1 + 301 * k ∧ Hid (P0 = bs (rT l k ++ (if k = 0 then [] else [44]))) ∧ ((k = 0 ∧ P0 = T) ∨ (k ≠ 0 ∧ P0 = T ++ ⟨#[44]⟩)) := by
            by_cases hk0 : k = 0
            · refine ⟨T, by omega, ?_, .inl ⟨hk0, rfl⟩⟩
              show _ = _
              rw [if_pos hk0, List.append_nil, HT.out]
            · refine ⟨T ++ ⟨#[44]⟩, ?_, ?_, .inr ⟨hk0, rfl⟩⟩
              · rw [ByteArray.size_append, show (⟨#[44]⟩ : ByteArray).size = 1 from rfl]; omega
              · show _ = _
                rw [if_neg hk0, HT.out]
                apply ByteArray.ext
                simp [bs]
          obtain ⟨P0, hP0s, HP0, hP0⟩ := hcase
          obtain ⟨P1, hP1⟩ : ∃ P1 : ByteArray, P1 = P0 ++ nm := ⟨_, rfl⟩
          have hP1s : P1.size ≤ 65 + 301 * k := by rw [hP1, ByteArray.size_append]; omega
          have add1 : ∀ W, (Op.stringOp .add P0 nm).run Tryd.prog W = .ok (.string P1) W := fun W => by rw [hP1]; exact run_string_add_sum W _ _ (by omega)
          have HP1 := Lib.hid hP1
          clear hP1
          go_upto_if 18 with fail
          go_cut [3] from 11 to 50 (fun s3 wc => s3 = .string P0 ∧ wc = wr)
          case first =>
            by_cases hk0 : k = 0
            · obtain rfl : P0 = T := by
                rcases hP0 with ⟨_, h⟩ | ⟨h, _⟩
                · exact h
                · exact absurd hk0 h
              have d0 : decide (0 < k) = false := decide_eq_false (by omega)
              have d1 : decide ((0 : Int) < (k : Int)) = false := decide_eq_false (by omega)
              have d2 : ¬ 0 < k := by omega
              clear hP0 hk0
              go_wp2_with fail
              go_meet
              case rel => exact ⟨rfl, rfl⟩
            · have d0 : decide (0 < k) = true := decide_eq_true (by omega)
              have d1 : decide ((0 : Int) < (k : Int)) = true := decide_eq_true (by omega)
              have add0 : ∀ W, (Op.stringOp .add T ⟨#[44]⟩).run Tryd.prog W = .ok (.string P0) W := fun W => by
                rcases hP0 with ⟨h, _⟩ | ⟨_, h⟩
                · exact absurd h hk0
                · rw [h]; exact run_string_add_sum W _ _ (by have : (⟨#[44]⟩ : ByteArray).size = 1 := rfl; omega)
              have d2 : 0 < k := by omega
              clear hP0 hk0
              go_wp2_with fail
              go_meet
              case rel => exact ⟨rfl, rfl⟩
          case rest =>
          obtain ⟨rfl, rfl⟩ := hcut
          clear hP0
          rcases (show kd = 1 ∨ kd = 2 ∨ kd = 3 ∨ kd = 4 by omega) with rfl | rfl | rfl | rfl
          · obtain ⟨P2, hP2⟩ : ∃ P2 : ByteArray, P2 = P1 ++ ⟨#[61]⟩ := ⟨_, rfl⟩
            obtain ⟨P3, hP3⟩ : ∃ P3 : ByteArray, P3 = P2 ++ QT := ⟨_, rfl⟩
            have hsg : (⟨#[61]⟩ : ByteArray).size = 1 := rfl
            have hP2s : P2.size ≤ 67 + 301 * k := by rw [hP2, ByteArray.size_append, hsg]; omega
            have add2 : ∀ W, (Op.stringOp .add P1 ⟨#[61]⟩).run Tryd.prog W = .ok (.string P2) W := fun W => by rw [hP2]; exact run_string_add_sum W _ _ (by omega)
            have add3 : ∀ W, (Op.stringOp .add P2 QT).run Tryd.prog W = .ok (.string P3) W := fun W => by rw [hP3]; exact run_string_add_sum W _ _ (by omega)
            have HF : Hid (P3 = bs (rT l (k + 1))) := by
              show _ = _
              have hmi : mitem (1, nm, vl) = nm.data.toList ++ ([61] ++ quoteL vl) := by
                unfold mitem
                rw [if_neg (by simp)]
                rfl
              rw [hrs, hP3, hP2, HP1.out, HP0.out, HQT.out, hmi]
              apply ByteArray.ext
              simp [bs]
            have hbe : Below wc.heap.size wc (wc.alloc (.cells #[.string ⟨#[]⟩, .string ⟨#[61]⟩, .string ⟨#[33, 61]⟩, .string ⟨#[94, 61]⟩] 9)) := (Below.refl _ wc).alloc (Nat.le_refl _) _
            have r0 := (hbe.cell (p := ⟨b, off + k * 3, none⟩) (by simp; omega)).trans p0
            have r2 := (hbe.cell (p := ⟨b, off + k * 3 + 2, none⟩) (by simp; omega)).trans p2
            have r4 := (Arr.new wc 9 #[.string ⟨#[]⟩, .string ⟨#[61]⟩, .string ⟨#[33, 61]⟩, .string ⟨#[94, 61]⟩]).at_ (i := 1) (v := .string ⟨#[61]⟩) rfl
            clear hP2 hP3 hrs hsg hbe
            go_wp2_with fail
            refine wp_region_held_drew (S := fun w' => w'.cell? ⟨b, off + k * 3, none⟩ = some (.int .i64 1) ∧ w'.cell? ⟨b, off + k * 3 + 2, none⟩ = some (.string vl)) (by kernel_rfl) ?hS (fun hHeld => ?_)
            case hS => exact ⟨p0, p2⟩
            refine wpAnyH_take (i := 0) (oi := _) (v := ?_) (by rw [List.getElem?_toArray]; rfl) (by kernel_rfl) (by kernel_rfl) (by kernel_rfl) (by exact fun _ _ _ h => h) (Or.inl ⟨by rfl, ?_⟩) (by assumption) ?_
            rotate_left
            · (intro w9 hSw; (try dsimp only at hSw); go_simp; first | done | with_reducible rfl)
            try simp only [Act.put, List.setIfInBounds_toArray, List.set_cons_zero, List.set_cons_succ]
            refine wpAnyH_take (i := 2) (oi := _) (v := ?_) (by rw [List.getElem?_toArray]; rfl) (by kernel_rfl) (by kernel_rfl) (by kernel_rfl) (by exact fun _ _ _ h => h) (Or.inl ⟨by rfl, ?_⟩) (by assumption) ?_
            rotate_left
            · (intro w9 hSw; (try dsimp only at hSw); go_simp; first | done | with_reducible rfl)
            try simp only [Act.put, List.setIfInBounds_toArray, List.set_cons_zero, List.set_cons_succ]
            refine wpAnyH_take (i := 3) (oi := _) (v := ?_) (by rw [List.getElem?_toArray]; rfl) (by kernel_rfl) (by kernel_rfl) (by kernel_rfl) (by exact fun _ _ _ h => h) (Or.inl ⟨by rfl, ?_⟩) (by assumption) ?_
            rotate_left
            · (intro w9 hSw; (try dsimp only at hSw); go_simp; first | done | with_reducible rfl)
            try simp only [Act.put, List.setIfInBounds_toArray, List.set_cons_zero, List.set_cons_succ]
            refine wpAnyH_take (i := 4) (oi := _) (v := ?_) (by rw [List.getElem?_toArray]; rfl) (by kernel_rfl) (by kernel_rfl) (by kernel_rfl) (by exact fun _ _ _ h => h) (Or.inl ⟨by rfl, ?_⟩) (by assumption) ?_
            rotate_left
            · (intro w9 hSw; (try dsimp only at hSw); go_simp; first | done | with_reducible rfl)
            try simp only [Act.put, List.setIfInBounds_toArray, List.set_cons_zero, List.set_cons_succ]
            refine wpAnyH_take (i := 5) (oi := _) (v := ?_) (by rw [List.getElem?_toArray]; rfl) (by kernel_rfl) (by kernel_rfl) (by kernel_rfl) (by exact fun _ _ _ h => h) (Or.inl ⟨by rfl, ?_⟩) (by assumption) ?_
            rotate_left
            · (intro w9 hSw; (try dsimp only at hSw); go_simp; first | done | with_reducible rfl)
            try simp only [Act.put, List.setIfInBounds_toArray, List.set_cons_zero, List.set_cons_succ]
            refine wpAnyH_take (i := 6) (oi := _) (v := ?_) (by rw [List.getElem?_toArray]; rfl) (by kernel_rfl) (by kernel_rfl) (by kernel_rfl) (by exact fun _ _ _ h => h) (Or.inl ⟨by rfl, ?_⟩) (by assumption) ?_
            rotate_left
            · (intro w9 hSw; (try dsimp only at hSw); go_simp; first | done | with_reducible rfl)
            try simp only [Act.put, List.setIfInBounds_toArray, List.set_cons_zero, List.set_cons_succ]
            refine wpAnyH_take (i := 10) (oi := _) (v := ?_) (by rw [List.getElem?_toArray]; rfl) (by kernel_rfl) (by kernel_rfl) (by kernel_rfl) (by exact fun _ _ _ h => h) (Or.inl ⟨by rfl, ?_⟩) (by assumption) ?_
            rotate_left
            · (intro w9 hSw; (try dsimp only at hSw); go_simp; first | done | with_reducible rfl)
            try simp only [Act.put, List.setIfInBounds_toArray, List.set_cons_zero, List.set_cons_succ]
            refine wpAnyH_take (i := 11) (oi := _) (v := ?_) (by rw [List.getElem?_toArray]; rfl) (by kernel_rfl) (by kernel_rfl) (by kernel_rfl) (by exact fun _ _ _ h => h) (Or.inl ⟨by rfl, ?_⟩) (by assumption) ?_
            rotate_left
            · (intro w9 hSw; (try dsimp only at hSw); go_simp; first | done | with_reducible rfl)
            try simp only [Act.put, List.setIfInBounds_toArray, List.set_cons_zero, List.set_cons_succ]
            refine wpAnyH_take (i := 12) (oi := _) (v := ?_) (by rw [List.getElem?_toArray]; rfl) (by kernel_rfl) (by kernel_rfl) (by kernel_rfl) (by exact fun _ _ _ h => h) (Or.inl ⟨by rfl, ?_⟩) (by assumption) ?_
            rotate_left
            · (intro w9 hSw; (try dsimp only at hSw); go_simp; first | done | with_reducible rfl)
            try simp only [Act.put, List.setIfInBounds_toArray, List.set_cons_zero, List.set_cons_succ]
            refine wpAnyH_take (i := 13) (oi := _) (v := ?_) (by rw [List.getElem?_toArray]; rfl) (by kernel_rfl) (by kernel_rfl) (by kernel_rfl) (by exact fun _ _ _ h => h) (Or.inl ⟨by rfl, ?_⟩) (by assumption) ?_
            rotate_left
            · (intro w9 hSw; (try dsimp only at hSw); go_simp; first | done | with_reducible rfl)
            try simp only [Act.put, List.setIfInBounds_toArray, List.set_cons_zero, List.set_cons_succ]
            refine wpAnyH_take (i := 14) (oi := _) (v := ?_) (by rw [List.getElem?_toArray]; rfl) (by kernel_rfl) (by kernel_rfl) (by kernel_rfl) (by exact fun _ _ _ h => h) (Or.inl ⟨by rfl, ?_⟩) (by assumption) ?_
            rotate_left
            · (intro w9 hSw; (try dsimp only at hSw); go_simp; first | done | with_reducible rfl)
            try simp only [Act.put, List.setIfInBounds_toArray, List.set_cons_zero, List.set_cons_succ]
            refine wpAnyH_ready (rs := [1, 15]) (by kernel_rfl) (by simp) ?_
            refine AllReadyH.cons (o := _) (by rw [List.getElem?_toArray]; rfl) (fun K hK => ?_) ?nx1
            case nx1 =>
              refine AllReadyH.cons (o := _) (by rw [List.getElem?_toArray]; rfl) (fun K hK => ?_) AllReadyH.nil
              go_simp
              refine (HQ.out _).mono ?_
              rintro e w3 ⟨rfl, hb3⟩
              have s0 := (hb3.cell (p := ⟨b, off + k * 3, none⟩) (by simp; omega)).trans p0
              have s2 := (hb3.cell (p := ⟨b, off + k * 3 + 2, none⟩) (by simp; omega)).trans p2
              have hb9 : Below wc.heap.size wc w3 := (Below.refl _ wc).drew.trans hb3
              have hs3 := hb9.size
              go_wp2_with fail
              refine hK.out _ _ ?hS (fun hHeld => ?_)
              case hS => exact ⟨s0, s2⟩
              clear hK K
              try simp only [Act.put, List.setIfInBounds_toArray, List.set_cons_zero, List.set_cons_succ]
              refine wpAnyH_ready (rs := [1]) (by kernel_rfl) (by simp) ?_
              refine AllReadyH.cons (o := _) (by rw [List.getElem?_toArray]; rfl) (fun K hK => ?_) AllReadyH.nil
              go_simp
              have hbf : Below w3.heap.size w3 (w3.alloc (.cells #[.string ⟨#[]⟩, .string ⟨#[61]⟩, .string ⟨#[33, 61]⟩, .string ⟨#[94, 61]⟩] 9)) := (Below.refl _ w3).alloc (Nat.le_refl _) _
              have t0 := (hbf.cell (p := ⟨b, off + k * 3, none⟩) (by simp; omega)).trans s0
              have t2 := (hbf.cell (p := ⟨b, off + k * 3 + 2, none⟩) (by simp; omega)).trans s2
              have t4 := (Arr.new w3 9 #[.string ⟨#[]⟩, .string ⟨#[61]⟩, .string ⟨#[33, 61]⟩, .string ⟨#[94, 61]⟩]).at_ (i := 1) (v := .string ⟨#[61]⟩) rfl
              refine hK.out _ _ ?hS (fun hHeld => ?_)
              case hS => exact ⟨t0, t2⟩
              clear hK K
              try simp only [Act.put, List.setIfInBounds_toArray, List.set_cons_zero, List.set_cons_succ]
              refine wpAnyH_take (i := 7) (oi := _) (v := ?_) (by rw [List.getElem?_toArray]; rfl) (by kernel_rfl) (by kernel_rfl) (by kernel_rfl) (by exact fun _ _ _ h => h) (Or.inl ⟨by rfl, ?_⟩) (by assumption) ?_
              rotate_left
              · (intro w9 hSw; (try dsimp only at hSw); go_simp; first | done | with_reducible rfl)
              try simp only [Act.put, List.setIfInBounds_toArray, List.set_cons_zero, List.set_cons_succ]
              refine wpAnyH_ready (rs := [8]) (by kernel_rfl) (by simp) ?_
              refine AllReadyH.cons (o := _) (by rw [List.getElem?_toArray]; rfl) (fun K hK => ?_) AllReadyH.nil
              go_simp
              refine hK.out _ _ ?hS (fun hHeld => ?_)
              case hS => exact ⟨t0, t2⟩
              clear hK K
              try simp only [Act.put, List.setIfInBounds_toArray, List.set_cons_zero, List.set_cons_succ]
              refine wpAnyH_take (i := 9) (oi := _) (v := ?_) (by rw [List.getElem?_toArray]; rfl) (by kernel_rfl) (by kernel_rfl) (by kernel_rfl) (by exact fun _ _ _ h => h) (Or.inl ⟨by rfl, ?_⟩) (by assumption) ?_
              rotate_left
              · (intro w9 hSw; (try dsimp only at hSw); go_simp; first | done | with_reducible rfl)
              try simp only [Act.put, List.setIfInBounds_toArray, List.set_cons_zero, List.set_cons_succ]
              refine wpAnyH_take (i := 16) (oi := _) (v := ?_) (by rw [List.getElem?_toArray]; rfl) (by kernel_rfl) (by kernel_rfl) (by kernel_rfl) (by exact fun _ _ _ h => h) (Or.inl ⟨by rfl, ?_⟩) (by assumption) ?_
              rotate_left
              · (intro w9 hSw; (try dsimp only at hSw); go_simp; first | done | with_reducible rfl)
              try simp only [Act.put, List.setIfInBounds_toArray, List.set_cons_zero, List.set_cons_succ]
              refine wpAnyH_take (i := 17) (oi := _) (v := ?_) (by rw [List.getElem?_toArray]; rfl) (by kernel_rfl) (by kernel_rfl) (by kernel_rfl) (by exact fun _ _ _ h => h) (Or.inl ⟨by rfl, ?_⟩) (by assumption) ?_
              rotate_left
              · (intro w9 hSw; (try dsimp only at hSw); go_simp; first | done | with_reducible rfl)
              try simp only [Act.put, List.setIfInBounds_toArray, List.set_cons_zero, List.set_cons_succ]
              refine wpAnyH_done (by kernel_rfl) ?_ _
              have HB : Hid (Below w.heap.size w (w3.alloc (.cells #[.string ⟨#[]⟩, .string ⟨#[61]⟩, .string ⟨#[33, 61]⟩, .string ⟨#[94, 61]⟩] 9))) := (hb.trans (hb9.mono hs)).alloc (by omega) _
              go_wp2_with fail
              go_roundw
              case rel => exact ⟨k + 1, by omega, by go_num, by rw [HF.out], HB.out⟩
              case measure => simp [intOf]; omega
            go_simp
            refine hK.out _ _ ?hS (fun hHeld => ?_)
            case hS => exact ⟨r0, r2⟩
            clear hK K
            try simp only [Act.put, List.setIfInBounds_toArray, List.set_cons_zero, List.set_cons_succ]
            refine wpAnyH_take (i := 7) (oi := _) (v := ?_) (by rw [List.getElem?_toArray]; rfl) (by kernel_rfl) (by kernel_rfl) (by kernel_rfl) (by exact fun _ _ _ h => h) (Or.inl ⟨by rfl, ?_⟩) (by assumption) ?_
            rotate_left
            · (intro w9 hSw; (try dsimp only at hSw); go_simp; first | done | with_reducible rfl)
            try simp only [Act.put, List.setIfInBounds_toArray, List.set_cons_zero, List.set_cons_succ]
            refine wpAnyH_ready (rs := [8, 15]) (by kernel_rfl) (by simp) ?_
            refine AllReadyH.cons (o := _) (by rw [List.getElem?_toArray]; rfl) (fun K hK => ?_) ?nx2
            case nx2 =>
              refine AllReadyH.cons (o := _) (by rw [List.getElem?_toArray]; rfl) (fun K hK => ?_) AllReadyH.nil
              go_simp
              refine (HQ.out _).mono ?_
              rintro e w3 ⟨rfl, hb3⟩
              have s0 := (hb3.cell (p := ⟨b, off + k * 3, none⟩) (by simp; omega)).trans r0
              have s2 := (hb3.cell (p := ⟨b, off + k * 3 + 2, none⟩) (by simp; omega)).trans r2
              have s4 := (hb3.cell (p := ⟨wc.heap.size, 1, none⟩) (by simp)).trans r4
              have hb9 : Below wc.heap.size wc w3 := ((Below.refl _ wc).alloc (Nat.le_refl _) (.cells #[.string ⟨#[]⟩, .string ⟨#[61]⟩, .string ⟨#[33, 61]⟩, .string ⟨#[94, 61]⟩] 9)).drew.trans (hb3.mono (by simp))
              go_wp2_with fail
              refine hK.out _ _ ?hS (fun hHeld => ?_)
              case hS => exact ⟨s0, s2⟩
              clear hK K
              try simp only [Act.put, List.setIfInBounds_toArray, List.set_cons_zero, List.set_cons_succ]
              refine wpAnyH_ready (rs := [8]) (by kernel_rfl) (by simp) ?_
              refine AllReadyH.cons (o := _) (by rw [List.getElem?_toArray]; rfl) (fun K hK => ?_) AllReadyH.nil
              go_simp
              refine hK.out _ _ ?hS (fun hHeld => ?_)
              case hS => exact ⟨s0, s2⟩
              clear hK K
              try simp only [Act.put, List.setIfInBounds_toArray, List.set_cons_zero, List.set_cons_succ]
              refine wpAnyH_take (i := 9) (oi := _) (v := ?_) (by rw [List.getElem?_toArray]; rfl) (by kernel_rfl) (by kernel_rfl) (by kernel_rfl) (by exact fun _ _ _ h => h) (Or.inl ⟨by rfl, ?_⟩) (by assumption) ?_
              rotate_left
              · (intro w9 hSw; (try dsimp only at hSw); go_simp; first | done | with_reducible rfl)
              try simp only [Act.put, List.setIfInBounds_toArray, List.set_cons_zero, List.set_cons_succ]
              refine wpAnyH_take (i := 16) (oi := _) (v := ?_) (by rw [List.getElem?_toArray]; rfl) (by kernel_rfl) (by kernel_rfl) (by kernel_rfl) (by exact fun _ _ _ h => h) (Or.inl ⟨by rfl, ?_⟩) (by assumption) ?_
              rotate_left
              · (intro w9 hSw; (try dsimp only at hSw); go_simp; first | done | with_reducible rfl)
              try simp only [Act.put, List.setIfInBounds_toArray, List.set_cons_zero, List.set_cons_succ]
              refine wpAnyH_take (i := 17) (oi := _) (v := ?_) (by rw [List.getElem?_toArray]; rfl) (by kernel_rfl) (by kernel_rfl) (by kernel_rfl) (by exact fun _ _ _ h => h) (Or.inl ⟨by rfl, ?_⟩) (by assumption) ?_
              rotate_left
              · (intro w9 hSw; (try dsimp only at hSw); go_simp; first | done | with_reducible rfl)
              try simp only [Act.put, List.setIfInBounds_toArray, List.set_cons_zero, List.set_cons_succ]
              refine wpAnyH_done (by kernel_rfl) ?_ _
              have HB : Hid (Below w.heap.size w w3) := hb.trans (hb9.mono hs)
              go_wp2_with fail
              go_roundw
              case rel => exact ⟨k + 1, by omega, by go_num, by rw [HF.out], HB.out⟩
              case measure => simp [intOf]; omega
            go_simp
            refine hK.out _ _ ?hS (fun hHeld => ?_)
            case hS => exact ⟨r0, r2⟩
            clear hK K
            try simp only [Act.put, List.setIfInBounds_toArray, List.set_cons_zero, List.set_cons_succ]
            refine wpAnyH_take (i := 9) (oi := _) (v := ?_) (by rw [List.getElem?_toArray]; rfl) (by kernel_rfl) (by kernel_rfl) (by kernel_rfl) (by exact fun _ _ _ h => h) (Or.inl ⟨by rfl, ?_⟩) (by assumption) ?_
            rotate_left
            · (intro w9 hSw; (try dsimp only at hSw); go_simp; first | done | with_reducible rfl)
            try simp only [Act.put, List.setIfInBounds_toArray, List.set_cons_zero, List.set_cons_succ]
            refine wpAnyH_ready (rs := [15]) (by kernel_rfl) (by simp) ?_
            refine AllReadyH.cons (o := _) (by rw [List.getElem?_toArray]; rfl) (fun K hK => ?_) AllReadyH.nil
            go_simp
            refine (HQ.out _).mono ?_
            rintro e w3 ⟨rfl, hb3⟩
            have s0 := (hb3.cell (p := ⟨b, off + k * 3, none⟩) (by simp; omega)).trans r0
            have s2 := (hb3.cell (p := ⟨b, off + k * 3 + 2, none⟩) (by simp; omega)).trans r2
            have s4 := (hb3.cell (p := ⟨wc.heap.size, 1, none⟩) (by simp)).trans r4
            have hb9 : Below wc.heap.size wc w3 := ((Below.refl _ wc).alloc (Nat.le_refl _) (.cells #[.string ⟨#[]⟩, .string ⟨#[61]⟩, .string ⟨#[33, 61]⟩, .string ⟨#[94, 61]⟩] 9)).drew.trans (hb3.mono (by simp))
            go_wp2_with fail
            refine hK.out _ _ ?hS (fun hHeld => ?_)
            case hS => exact ⟨s0, s2⟩
            clear hK K
            try simp only [Act.put, List.setIfInBounds_toArray, List.set_cons_zero, List.set_cons_succ]
            refine wpAnyH_take (i := 16) (oi := _) (v := ?_) (by rw [List.getElem?_toArray]; rfl) (by kernel_rfl) (by kernel_rfl) (by kernel_rfl) (by exact fun _ _ _ h => h) (Or.inl ⟨by rfl, ?_⟩) (by assumption) ?_
            rotate_left
            · (intro w9 hSw; (try dsimp only at hSw); go_simp; first | done | with_reducible rfl)
            try simp only [Act.put, List.setIfInBounds_toArray, List.set_cons_zero, List.set_cons_succ]
            refine wpAnyH_take (i := 17) (oi := _) (v := ?_) (by rw [List.getElem?_toArray]; rfl) (by kernel_rfl) (by kernel_rfl) (by kernel_rfl) (by exact fun _ _ _ h => h) (Or.inl ⟨by rfl, ?_⟩) (by assumption) ?_
            rotate_left
            · (intro w9 hSw; (try dsimp only at hSw); go_simp; first | done | with_reducible rfl)
            try simp only [Act.put, List.setIfInBounds_toArray, List.set_cons_zero, List.set_cons_succ]
            refine wpAnyH_done (by kernel_rfl) ?_ _
            have HB : Hid (Below w.heap.size w w3) := hb.trans (hb9.mono hs)
            go_wp2_with fail
            go_roundw
            case rel => exact ⟨k + 1, by omega, by go_num, by rw [HF.out], HB.out⟩
            case measure => simp [intOf]; omega
          · obtain ⟨P2, hP2⟩ : ∃ P2 : ByteArray, P2 = P1 ++ ⟨#[33, 61]⟩ := ⟨_, rfl⟩
            obtain ⟨P3, hP3⟩ : ∃ P3 : ByteArray, P3 = P2 ++ QT := ⟨_, rfl⟩
            have hsg : (⟨#[33, 61]⟩ : ByteArray).size = 2 := rfl
            have hP2s : P2.size ≤ 67 + 301 * k := by rw [hP2, ByteArray.size_append, hsg]; omega
            have add2 : ∀ W, (Op.stringOp .add P1 ⟨#[33, 61]⟩).run Tryd.prog W = .ok (.string P2) W := fun W => by rw [hP2]; exact run_string_add_sum W _ _ (by omega)
            have add3 : ∀ W, (Op.stringOp .add P2 QT).run Tryd.prog W = .ok (.string P3) W := fun W => by rw [hP3]; exact run_string_add_sum W _ _ (by omega)
            have HF : Hid (P3 = bs (rT l (k + 1))) := by
              show _ = _
              have hmi : mitem (2, nm, vl) = nm.data.toList ++ ([33, 61] ++ quoteL vl) := by
                unfold mitem
                rw [if_neg (by simp)]
                rfl
              rw [hrs, hP3, hP2, HP1.out, HP0.out, HQT.out, hmi]
              apply ByteArray.ext
              simp [bs]
            have hbe : Below wc.heap.size wc (wc.alloc (.cells #[.string ⟨#[]⟩, .string ⟨#[61]⟩, .string ⟨#[33, 61]⟩, .string ⟨#[94, 61]⟩] 9)) := (Below.refl _ wc).alloc (Nat.le_refl _) _
            have r0 := (hbe.cell (p := ⟨b, off + k * 3, none⟩) (by simp; omega)).trans p0
            have r2 := (hbe.cell (p := ⟨b, off + k * 3 + 2, none⟩) (by simp; omega)).trans p2
            have r4 := (Arr.new wc 9 #[.string ⟨#[]⟩, .string ⟨#[61]⟩, .string ⟨#[33, 61]⟩, .string ⟨#[94, 61]⟩]).at_ (i := 2) (v := .string ⟨#[33, 61]⟩) rfl
            clear hP2 hP3 hrs hsg hbe
            go_wp2_with fail
            refine wp_region_held_drew (S := fun w' => w'.cell? ⟨b, off + k * 3, none⟩ = some (.int .i64 2) ∧ w'.cell? ⟨b, off + k * 3 + 2, none⟩ = some (.string vl)) (by kernel_rfl) ?hS (fun hHeld => ?_)
            case hS => exact ⟨p0, p2⟩
            refine wpAnyH_take (i := 0) (oi := _) (v := ?_) (by rw [List.getElem?_toArray]; rfl) (by kernel_rfl) (by kernel_rfl) (by kernel_rfl) (by exact fun _ _ _ h => h) (Or.inl ⟨by rfl, ?_⟩) (by assumption) ?_
            rotate_left
            · (intro w9 hSw; (try dsimp only at hSw); go_simp; first | done | with_reducible rfl)
            try simp only [Act.put, List.setIfInBounds_toArray, List.set_cons_zero, List.set_cons_succ]
            refine wpAnyH_take (i := 2) (oi := _) (v := ?_) (by rw [List.getElem?_toArray]; rfl) (by kernel_rfl) (by kernel_rfl) (by kernel_rfl) (by exact fun _ _ _ h => h) (Or.inl ⟨by rfl, ?_⟩) (by assumption) ?_
            rotate_left
            · (intro w9 hSw; (try dsimp only at hSw); go_simp; first | done | with_reducible rfl)
            try simp only [Act.put, List.setIfInBounds_toArray, List.set_cons_zero, List.set_cons_succ]
            refine wpAnyH_take (i := 3) (oi := _) (v := ?_) (by rw [List.getElem?_toArray]; rfl) (by kernel_rfl) (by kernel_rfl) (by kernel_rfl) (by exact fun _ _ _ h => h) (Or.inl ⟨by rfl, ?_⟩) (by assumption) ?_
            rotate_left
            · (intro w9 hSw; (try dsimp only at hSw); go_simp; first | done | with_reducible rfl)
            try simp only [Act.put, List.setIfInBounds_toArray, List.set_cons_zero, List.set_cons_succ]
            refine wpAnyH_take (i := 4) (oi := _) (v := ?_) (by rw [List.getElem?_toArray]; rfl) (by kernel_rfl) (by kernel_rfl) (by kernel_rfl) (by exact fun _ _ _ h => h) (Or.inl ⟨by rfl, ?_⟩) (by assumption) ?_
            rotate_left
            · (intro w9 hSw; (try dsimp only at hSw); go_simp; first | done | with_reducible rfl)
            try simp only [Act.put, List.setIfInBounds_toArray, List.set_cons_zero, List.set_cons_succ]
            refine wpAnyH_take (i := 5) (oi := _) (v := ?_) (by rw [List.getElem?_toArray]; rfl) (by kernel_rfl) (by kernel_rfl) (by kernel_rfl) (by exact fun _ _ _ h => h) (Or.inl ⟨by rfl, ?_⟩) (by assumption) ?_
            rotate_left
            · (intro w9 hSw; (try dsimp only at hSw); go_simp; first | done | with_reducible rfl)
            try simp only [Act.put, List.setIfInBounds_toArray, List.set_cons_zero, List.set_cons_succ]
            refine wpAnyH_take (i := 6) (oi := _) (v := ?_) (by rw [List.getElem?_toArray]; rfl) (by kernel_rfl) (by kernel_rfl) (by kernel_rfl) (by exact fun _ _ _ h => h) (Or.inl ⟨by rfl, ?_⟩) (by assumption) ?_
            rotate_left
            · (intro w9 hSw; (try dsimp only at hSw); go_simp; first | done | with_reducible rfl)
            try simp only [Act.put, List.setIfInBounds_toArray, List.set_cons_zero, List.set_cons_succ]
            refine wpAnyH_take (i := 10) (oi := _) (v := ?_) (by rw [List.getElem?_toArray]; rfl) (by kernel_rfl) (by kernel_rfl) (by kernel_rfl) (by exact fun _ _ _ h => h) (Or.inl ⟨by rfl, ?_⟩) (by assumption) ?_
            rotate_left
            · (intro w9 hSw; (try dsimp only at hSw); go_simp; first | done | with_reducible rfl)
            try simp only [Act.put, List.setIfInBounds_toArray, List.set_cons_zero, List.set_cons_succ]
            refine wpAnyH_take (i := 11) (oi := _) (v := ?_) (by rw [List.getElem?_toArray]; rfl) (by kernel_rfl) (by kernel_rfl) (by kernel_rfl) (by exact fun _ _ _ h => h) (Or.inl ⟨by rfl, ?_⟩) (by assumption) ?_
            rotate_left
            · (intro w9 hSw; (try dsimp only at hSw); go_simp; first | done | with_reducible rfl)
            try simp only [Act.put, List.setIfInBounds_toArray, List.set_cons_zero, List.set_cons_succ]
            refine wpAnyH_take (i := 12) (oi := _) (v := ?_) (by rw [List.getElem?_toArray]; rfl) (by kernel_rfl) (by kernel_rfl) (by kernel_rfl) (by exact fun _ _ _ h => h) (Or.inl ⟨by rfl, ?_⟩) (by assumption) ?_
            rotate_left
            · (intro w9 hSw; (try dsimp only at hSw); go_simp; first | done | with_reducible rfl)
            try simp only [Act.put, List.setIfInBounds_toArray, List.set_cons_zero, List.set_cons_succ]
            refine wpAnyH_take (i := 13) (oi := _) (v := ?_) (by rw [List.getElem?_toArray]; rfl) (by kernel_rfl) (by kernel_rfl) (by kernel_rfl) (by exact fun _ _ _ h => h) (Or.inl ⟨by rfl, ?_⟩) (by assumption) ?_
            rotate_left
            · (intro w9 hSw; (try dsimp only at hSw); go_simp; first | done | with_reducible rfl)
            try simp only [Act.put, List.setIfInBounds_toArray, List.set_cons_zero, List.set_cons_succ]
            refine wpAnyH_take (i := 14) (oi := _) (v := ?_) (by rw [List.getElem?_toArray]; rfl) (by kernel_rfl) (by kernel_rfl) (by kernel_rfl) (by exact fun _ _ _ h => h) (Or.inl ⟨by rfl, ?_⟩) (by assumption) ?_
            rotate_left
            · (intro w9 hSw; (try dsimp only at hSw); go_simp; first | done | with_reducible rfl)
            try simp only [Act.put, List.setIfInBounds_toArray, List.set_cons_zero, List.set_cons_succ]
            refine wpAnyH_ready (rs := [1, 15]) (by kernel_rfl) (by simp) ?_
            refine AllReadyH.cons (o := _) (by rw [List.getElem?_toArray]; rfl) (fun K hK => ?_) ?nx1
            case nx1 =>
              refine AllReadyH.cons (o := _) (by rw [List.getElem?_toArray]; rfl) (fun K hK => ?_) AllReadyH.nil
              go_simp
              refine (HQ.out _).mono ?_
              rintro e w3 ⟨rfl, hb3⟩
              have s0 := (hb3.cell (p := ⟨b, off + k * 3, none⟩) (by simp; omega)).trans p0
              have s2 := (hb3.cell (p := ⟨b, off + k * 3 + 2, none⟩) (by simp; omega)).trans p2
              have hb9 : Below wc.heap.size wc w3 := (Below.refl _ wc).drew.trans hb3
              have hs3 := hb9.size
              go_wp2_with fail
              refine hK.out _ _ ?hS (fun hHeld => ?_)
              case hS => exact ⟨s0, s2⟩
              clear hK K
              try simp only [Act.put, List.setIfInBounds_toArray, List.set_cons_zero, List.set_cons_succ]
              refine wpAnyH_ready (rs := [1]) (by kernel_rfl) (by simp) ?_
              refine AllReadyH.cons (o := _) (by rw [List.getElem?_toArray]; rfl) (fun K hK => ?_) AllReadyH.nil
              go_simp
              have hbf : Below w3.heap.size w3 (w3.alloc (.cells #[.string ⟨#[]⟩, .string ⟨#[61]⟩, .string ⟨#[33, 61]⟩, .string ⟨#[94, 61]⟩] 9)) := (Below.refl _ w3).alloc (Nat.le_refl _) _
              have t0 := (hbf.cell (p := ⟨b, off + k * 3, none⟩) (by simp; omega)).trans s0
              have t2 := (hbf.cell (p := ⟨b, off + k * 3 + 2, none⟩) (by simp; omega)).trans s2
              have t4 := (Arr.new w3 9 #[.string ⟨#[]⟩, .string ⟨#[61]⟩, .string ⟨#[33, 61]⟩, .string ⟨#[94, 61]⟩]).at_ (i := 2) (v := .string ⟨#[33, 61]⟩) rfl
              refine hK.out _ _ ?hS (fun hHeld => ?_)
              case hS => exact ⟨t0, t2⟩
              clear hK K
              try simp only [Act.put, List.setIfInBounds_toArray, List.set_cons_zero, List.set_cons_succ]
              refine wpAnyH_take (i := 7) (oi := _) (v := ?_) (by rw [List.getElem?_toArray]; rfl) (by kernel_rfl) (by kernel_rfl) (by kernel_rfl) (by exact fun _ _ _ h => h) (Or.inl ⟨by rfl, ?_⟩) (by assumption) ?_
              rotate_left
              · (intro w9 hSw; (try dsimp only at hSw); go_simp; first | done | with_reducible rfl)
              try simp only [Act.put, List.setIfInBounds_toArray, List.set_cons_zero, List.set_cons_succ]
              refine wpAnyH_ready (rs := [8]) (by kernel_rfl) (by simp) ?_
              refine AllReadyH.cons (o := _) (by rw [List.getElem?_toArray]; rfl) (fun K hK => ?_) AllReadyH.nil
              go_simp
              refine hK.out _ _ ?hS (fun hHeld => ?_)
              case hS => exact ⟨t0, t2⟩
              clear hK K
              try simp only [Act.put, List.setIfInBounds_toArray, List.set_cons_zero, List.set_cons_succ]
              refine wpAnyH_take (i := 9) (oi := _) (v := ?_) (by rw [List.getElem?_toArray]; rfl) (by kernel_rfl) (by kernel_rfl) (by kernel_rfl) (by exact fun _ _ _ h => h) (Or.inl ⟨by rfl, ?_⟩) (by assumption) ?_
              rotate_left
              · (intro w9 hSw; (try dsimp only at hSw); go_simp; first | done | with_reducible rfl)
              try simp only [Act.put, List.setIfInBounds_toArray, List.set_cons_zero, List.set_cons_succ]
              refine wpAnyH_take (i := 16) (oi := _) (v := ?_) (by rw [List.getElem?_toArray]; rfl) (by kernel_rfl) (by kernel_rfl) (by kernel_rfl) (by exact fun _ _ _ h => h) (Or.inl ⟨by rfl, ?_⟩) (by assumption) ?_
              rotate_left
              · (intro w9 hSw; (try dsimp only at hSw); go_simp; first | done | with_reducible rfl)
              try simp only [Act.put, List.setIfInBounds_toArray, List.set_cons_zero, List.set_cons_succ]
              refine wpAnyH_take (i := 17) (oi := _) (v := ?_) (by rw [List.getElem?_toArray]; rfl) (by kernel_rfl) (by kernel_rfl) (by kernel_rfl) (by exact fun _ _ _ h => h) (Or.inl ⟨by rfl, ?_⟩) (by assumption) ?_
              rotate_left
              · (intro w9 hSw; (try dsimp only at hSw); go_simp; first | done | with_reducible rfl)
              try simp only [Act.put, List.setIfInBounds_toArray, List.set_cons_zero, List.set_cons_succ]
              refine wpAnyH_done (by kernel_rfl) ?_ _
              have HB : Hid (Below w.heap.size w (w3.alloc (.cells #[.string ⟨#[]⟩, .string ⟨#[61]⟩, .string ⟨#[33, 61]⟩, .string ⟨#[94, 61]⟩] 9))) := (hb.trans (hb9.mono hs)).alloc (by omega) _
              go_wp2_with fail
              go_roundw
              case rel => exact ⟨k + 1, by omega, by go_num, by rw [HF.out], HB.out⟩
              case measure => simp [intOf]; omega
            go_simp
            refine hK.out _ _ ?hS (fun hHeld => ?_)
            case hS => exact ⟨r0, r2⟩
            clear hK K
            try simp only [Act.put, List.setIfInBounds_toArray, List.set_cons_zero, List.set_cons_succ]
            refine wpAnyH_take (i := 7) (oi := _) (v := ?_) (by rw [List.getElem?_toArray]; rfl) (by kernel_rfl) (by kernel_rfl) (by kernel_rfl) (by exact fun _ _ _ h => h) (Or.inl ⟨by rfl, ?_⟩) (by assumption) ?_
            rotate_left
            · (intro w9 hSw; (try dsimp only at hSw); go_simp; first | done | with_reducible rfl)
            try simp only [Act.put, List.setIfInBounds_toArray, List.set_cons_zero, List.set_cons_succ]
            refine wpAnyH_ready (rs := [8, 15]) (by kernel_rfl) (by simp) ?_
            refine AllReadyH.cons (o := _) (by rw [List.getElem?_toArray]; rfl) (fun K hK => ?_) ?nx2
            case nx2 =>
              refine AllReadyH.cons (o := _) (by rw [List.getElem?_toArray]; rfl) (fun K hK => ?_) AllReadyH.nil
              go_simp
              refine (HQ.out _).mono ?_
              rintro e w3 ⟨rfl, hb3⟩
              have s0 := (hb3.cell (p := ⟨b, off + k * 3, none⟩) (by simp; omega)).trans r0
              have s2 := (hb3.cell (p := ⟨b, off + k * 3 + 2, none⟩) (by simp; omega)).trans r2
              have s4 := (hb3.cell (p := ⟨wc.heap.size, 2, none⟩) (by simp)).trans r4
              have hb9 : Below wc.heap.size wc w3 := ((Below.refl _ wc).alloc (Nat.le_refl _) (.cells #[.string ⟨#[]⟩, .string ⟨#[61]⟩, .string ⟨#[33, 61]⟩, .string ⟨#[94, 61]⟩] 9)).drew.trans (hb3.mono (by simp))
              go_wp2_with fail
              refine hK.out _ _ ?hS (fun hHeld => ?_)
              case hS => exact ⟨s0, s2⟩
              clear hK K
              try simp only [Act.put, List.setIfInBounds_toArray, List.set_cons_zero, List.set_cons_succ]
              refine wpAnyH_ready (rs := [8]) (by kernel_rfl) (by simp) ?_
              refine AllReadyH.cons (o := _) (by rw [List.getElem?_toArray]; rfl) (fun K hK => ?_) AllReadyH.nil
              go_simp
              refine hK.out _ _ ?hS (fun hHeld => ?_)
              case hS => exact ⟨s0, s2⟩
              clear hK K
              try simp only [Act.put, List.setIfInBounds_toArray, List.set_cons_zero, List.set_cons_succ]
              refine wpAnyH_take (i := 9) (oi := _) (v := ?_) (by rw [List.getElem?_toArray]; rfl) (by kernel_rfl) (by kernel_rfl) (by kernel_rfl) (by exact fun _ _ _ h => h) (Or.inl ⟨by rfl, ?_⟩) (by assumption) ?_
              rotate_left
              · (intro w9 hSw; (try dsimp only at hSw); go_simp; first | done | with_reducible rfl)
              try simp only [Act.put, List.setIfInBounds_toArray, List.set_cons_zero, List.set_cons_succ]
              refine wpAnyH_take (i := 16) (oi := _) (v := ?_) (by rw [List.getElem?_toArray]; rfl) (by kernel_rfl) (by kernel_rfl) (by kernel_rfl) (by exact fun _ _ _ h => h) (Or.inl ⟨by rfl, ?_⟩) (by assumption) ?_
              rotate_left
              · (intro w9 hSw; (try dsimp only at hSw); go_simp; first | done | with_reducible rfl)
              try simp only [Act.put, List.setIfInBounds_toArray, List.set_cons_zero, List.set_cons_succ]
              refine wpAnyH_take (i := 17) (oi := _) (v := ?_) (by rw [List.getElem?_toArray]; rfl) (by kernel_rfl) (by kernel_rfl) (by kernel_rfl) (by exact fun _ _ _ h => h) (Or.inl ⟨by rfl, ?_⟩) (by assumption) ?_
              rotate_left
              · (intro w9 hSw; (try dsimp only at hSw); go_simp; first | done | with_reducible rfl)
              try simp only [Act.put, List.setIfInBounds_toArray, List.set_cons_zero, List.set_cons_succ]
              refine wpAnyH_done (by kernel_rfl) ?_ _
              have HB : Hid (Below w.heap.size w w3) := hb.trans (hb9.mono hs)
              go_wp2_with fail
              go_roundw
              case rel => exact ⟨k + 1, by omega, by go_num, by rw [HF.out], HB.out⟩
              case measure => simp [intOf]; omega
            go_simp
            refine hK.out _ _ ?hS (fun hHeld => ?_)
            case hS => exact ⟨r0, r2⟩
            clear hK K
            try simp only [Act.put, List.setIfInBounds_toArray, List.set_cons_zero, List.set_cons_succ]
            refine wpAnyH_take (i := 9) (oi := _) (v := ?_) (by rw [List.getElem?_toArray]; rfl) (by kernel_rfl) (by kernel_rfl) (by kernel_rfl) (by exact fun _ _ _ h => h) (Or.inl ⟨by rfl, ?_⟩) (by assumption) ?_
            rotate_left
            · (intro w9 hSw; (try dsimp only at hSw); go_simp; first | done | with_reducible rfl)
            try simp only [Act.put, List.setIfInBounds_toArray, List.set_cons_zero, List.set_cons_succ]
            refine wpAnyH_ready (rs := [15]) (by kernel_rfl) (by simp) ?_
            refine AllReadyH.cons (o := _) (by rw [List.getElem?_toArray]; rfl) (fun K hK => ?_) AllReadyH.nil
            go_simp
            refine (HQ.out _).mono ?_
            rintro e w3 ⟨rfl, hb3⟩
            have s0 := (hb3.cell (p := ⟨b, off + k * 3, none⟩) (by simp; omega)).trans r0
            have s2 := (hb3.cell (p := ⟨b, off + k * 3 + 2, none⟩) (by simp; omega)).trans r2
            have s4 := (hb3.cell (p := ⟨wc.heap.size, 2, none⟩) (by simp)).trans r4
            have hb9 : Below wc.heap.size wc w3 := ((Below.refl _ wc).alloc (Nat.le_refl _) (.cells #[.string ⟨#[]⟩, .string ⟨#[61]⟩, .string ⟨#[33, 61]⟩, .string ⟨#[94, 61]⟩] 9)).drew.trans (hb3.mono (by simp))
            go_wp2_with fail
            refine hK.out _ _ ?hS (fun hHeld => ?_)
            case hS => exact ⟨s0, s2⟩
            clear hK K
            try simp only [Act.put, List.setIfInBounds_toArray, List.set_cons_zero, List.set_cons_succ]
            refine wpAnyH_take (i := 16) (oi := _) (v := ?_) (by rw [List.getElem?_toArray]; rfl) (by kernel_rfl) (by kernel_rfl) (by kernel_rfl) (by exact fun _ _ _ h => h) (Or.inl ⟨by rfl, ?_⟩) (by assumption) ?_
            rotate_left
            · (intro w9 hSw; (try dsimp only at hSw); go_simp; first | done | with_reducible rfl)
            try simp only [Act.put, List.setIfInBounds_toArray, List.set_cons_zero, List.set_cons_succ]
            refine wpAnyH_take (i := 17) (oi := _) (v := ?_) (by rw [List.getElem?_toArray]; rfl) (by kernel_rfl) (by kernel_rfl) (by kernel_rfl) (by exact fun _ _ _ h => h) (Or.inl ⟨by rfl, ?_⟩) (by assumption) ?_
            rotate_left
            · (intro w9 hSw; (try dsimp only at hSw); go_simp; first | done | with_reducible rfl)
            try simp only [Act.put, List.setIfInBounds_toArray, List.set_cons_zero, List.set_cons_succ]
            refine wpAnyH_done (by kernel_rfl) ?_ _
            have HB : Hid (Below w.heap.size w w3) := hb.trans (hb9.mono hs)
            go_wp2_with fail
            go_roundw
            case rel => exact ⟨k + 1, by omega, by go_num, by rw [HF.out], HB.out⟩
            case measure => simp [intOf]; omega
          · obtain ⟨P2, hP2⟩ : ∃ P2 : ByteArray, P2 = P1 ++ ⟨#[94, 61]⟩ := ⟨_, rfl⟩
            obtain ⟨P3, hP3⟩ : ∃ P3 : ByteArray, P3 = P2 ++ QT := ⟨_, rfl⟩
            have hsg : (⟨#[94, 61]⟩ : ByteArray).size = 2 := rfl
            have hP2s : P2.size ≤ 67 + 301 * k := by rw [hP2, ByteArray.size_append, hsg]; omega
            have add2 : ∀ W, (Op.stringOp .add P1 ⟨#[94, 61]⟩).run Tryd.prog W = .ok (.string P2) W := fun W => by rw [hP2]; exact run_string_add_sum W _ _ (by omega)
            have add3 : ∀ W, (Op.stringOp .add P2 QT).run Tryd.prog W = .ok (.string P3) W := fun W => by rw [hP3]; exact run_string_add_sum W _ _ (by omega)
            have HF : Hid (P3 = bs (rT l (k + 1))) := by
              show _ = _
              have hmi : mitem (3, nm, vl) = nm.data.toList ++ ([94, 61] ++ quoteL vl) := by
                unfold mitem
                rw [if_neg (by simp)]
                rfl
              rw [hrs, hP3, hP2, HP1.out, HP0.out, HQT.out, hmi]
              apply ByteArray.ext
              simp [bs]
            have hbe : Below wc.heap.size wc (wc.alloc (.cells #[.string ⟨#[]⟩, .string ⟨#[61]⟩, .string ⟨#[33, 61]⟩, .string ⟨#[94, 61]⟩] 9)) := (Below.refl _ wc).alloc (Nat.le_refl _) _
            have r0 := (hbe.cell (p := ⟨b, off + k * 3, none⟩) (by simp; omega)).trans p0
            have r2 := (hbe.cell (p := ⟨b, off + k * 3 + 2, none⟩) (by simp; omega)).trans p2
            have r4 := (Arr.new wc 9 #[.string ⟨#[]⟩, .string ⟨#[61]⟩, .string ⟨#[33, 61]⟩, .string ⟨#[94, 61]⟩]).at_ (i := 3) (v := .string ⟨#[94, 61]⟩) rfl
            clear hP2 hP3 hrs hsg hbe
            go_wp2_with fail
            refine wp_region_held_drew (S := fun w' => w'.cell? ⟨b, off + k * 3, none⟩ = some (.int .i64 3) ∧ w'.cell? ⟨b, off + k * 3 + 2, none⟩ = some (.string vl)) (by kernel_rfl) ?hS (fun hHeld => ?_)
            case hS => exact ⟨p0, p2⟩
            refine wpAnyH_take (i := 0) (oi := _) (v := ?_) (by rw [List.getElem?_toArray]; rfl) (by kernel_rfl) (by kernel_rfl) (by kernel_rfl) (by exact fun _ _ _ h => h) (Or.inl ⟨by rfl, ?_⟩) (by assumption) ?_
            rotate_left
            · (intro w9 hSw; (try dsimp only at hSw); go_simp; first | done | with_reducible rfl)
            try simp only [Act.put, List.setIfInBounds_toArray, List.set_cons_zero, List.set_cons_succ]
            refine wpAnyH_take (i := 2) (oi := _) (v := ?_) (by rw [List.getElem?_toArray]; rfl) (by kernel_rfl) (by kernel_rfl) (by kernel_rfl) (by exact fun _ _ _ h => h) (Or.inl ⟨by rfl, ?_⟩) (by assumption) ?_
            rotate_left
            · (intro w9 hSw; (try dsimp only at hSw); go_simp; first | done | with_reducible rfl)
            try simp only [Act.put, List.setIfInBounds_toArray, List.set_cons_zero, List.set_cons_succ]
            refine wpAnyH_take (i := 3) (oi := _) (v := ?_) (by rw [List.getElem?_toArray]; rfl) (by kernel_rfl) (by kernel_rfl) (by kernel_rfl) (by exact fun _ _ _ h => h) (Or.inl ⟨by rfl, ?_⟩) (by assumption) ?_
            rotate_left
            · (intro w9 hSw; (try dsimp only at hSw); go_simp; first | done | with_reducible rfl)
            try simp only [Act.put, List.setIfInBounds_toArray, List.set_cons_zero, List.set_cons_succ]
            refine wpAnyH_take (i := 4) (oi := _) (v := ?_) (by rw [List.getElem?_toArray]; rfl) (by kernel_rfl) (by kernel_rfl) (by kernel_rfl) (by exact fun _ _ _ h => h) (Or.inl ⟨by rfl, ?_⟩) (by assumption) ?_
            rotate_left
            · (intro w9 hSw; (try dsimp only at hSw); go_simp; first | done | with_reducible rfl)
            try simp only [Act.put, List.setIfInBounds_toArray, List.set_cons_zero, List.set_cons_succ]
            refine wpAnyH_take (i := 5) (oi := _) (v := ?_) (by rw [List.getElem?_toArray]; rfl) (by kernel_rfl) (by kernel_rfl) (by kernel_rfl) (by exact fun _ _ _ h => h) (Or.inl ⟨by rfl, ?_⟩) (by assumption) ?_
            rotate_left
            · (intro w9 hSw; (try dsimp only at hSw); go_simp; first | done | with_reducible rfl)
            try simp only [Act.put, List.setIfInBounds_toArray, List.set_cons_zero, List.set_cons_succ]
            refine wpAnyH_take (i := 6) (oi := _) (v := ?_) (by rw [List.getElem?_toArray]; rfl) (by kernel_rfl) (by kernel_rfl) (by kernel_rfl) (by exact fun _ _ _ h => h) (Or.inl ⟨by rfl, ?_⟩) (by assumption) ?_
            rotate_left
            · (intro w9 hSw; (try dsimp only at hSw); go_simp; first | done | with_reducible rfl)
            try simp only [Act.put, List.setIfInBounds_toArray, List.set_cons_zero, List.set_cons_succ]
            refine wpAnyH_take (i := 10) (oi := _) (v := ?_) (by rw [List.getElem?_toArray]; rfl) (by kernel_rfl) (by kernel_rfl) (by kernel_rfl) (by exact fun _ _ _ h => h) (Or.inl ⟨by rfl, ?_⟩) (by assumption) ?_
            rotate_left
            · (intro w9 hSw; (try dsimp only at hSw); go_simp; first | done | with_reducible rfl)
            try simp only [Act.put, List.setIfInBounds_toArray, List.set_cons_zero, List.set_cons_succ]
            refine wpAnyH_take (i := 11) (oi := _) (v := ?_) (by rw [List.getElem?_toArray]; rfl) (by kernel_rfl) (by kernel_rfl) (by kernel_rfl) (by exact fun _ _ _ h => h) (Or.inl ⟨by rfl, ?_⟩) (by assumption) ?_
            rotate_left
            · (intro w9 hSw; (try dsimp only at hSw); go_simp; first | done | with_reducible rfl)
            try simp only [Act.put, List.setIfInBounds_toArray, List.set_cons_zero, List.set_cons_succ]
            refine wpAnyH_take (i := 12) (oi := _) (v := ?_) (by rw [List.getElem?_toArray]; rfl) (by kernel_rfl) (by kernel_rfl) (by kernel_rfl) (by exact fun _ _ _ h => h) (Or.inl ⟨by rfl, ?_⟩) (by assumption) ?_
            rotate_left
            · (intro w9 hSw; (try dsimp only at hSw); go_simp; first | done | with_reducible rfl)
            try simp only [Act.put, List.setIfInBounds_toArray, List.set_cons_zero, List.set_cons_succ]
            refine wpAnyH_take (i := 13) (oi := _) (v := ?_) (by rw [List.getElem?_toArray]; rfl) (by kernel_rfl) (by kernel_rfl) (by kernel_rfl) (by exact fun _ _ _ h => h) (Or.inl ⟨by rfl, ?_⟩) (by assumption) ?_
            rotate_left
            · (intro w9 hSw; (try dsimp only at hSw); go_simp; first | done | with_reducible rfl)
            try simp only [Act.put, List.setIfInBounds_toArray, List.set_cons_zero, List.set_cons_succ]
            refine wpAnyH_take (i := 14) (oi := _) (v := ?_) (by rw [List.getElem?_toArray]; rfl) (by kernel_rfl) (by kernel_rfl) (by kernel_rfl) (by exact fun _ _ _ h => h) (Or.inl ⟨by rfl, ?_⟩) (by assumption) ?_
            rotate_left
            · (intro w9 hSw; (try dsimp only at hSw); go_simp; first | done | with_reducible rfl)
            try simp only [Act.put, List.setIfInBounds_toArray, List.set_cons_zero, List.set_cons_succ]
            refine wpAnyH_ready (rs := [1, 15]) (by kernel_rfl) (by simp) ?_
            refine AllReadyH.cons (o := _) (by rw [List.getElem?_toArray]; rfl) (fun K hK => ?_) ?nx1
            case nx1 =>
              refine AllReadyH.cons (o := _) (by rw [List.getElem?_toArray]; rfl) (fun K hK => ?_) AllReadyH.nil
              go_simp
              refine (HQ.out _).mono ?_
              rintro e w3 ⟨rfl, hb3⟩
              have s0 := (hb3.cell (p := ⟨b, off + k * 3, none⟩) (by simp; omega)).trans p0
              have s2 := (hb3.cell (p := ⟨b, off + k * 3 + 2, none⟩) (by simp; omega)).trans p2
              have hb9 : Below wc.heap.size wc w3 := (Below.refl _ wc).drew.trans hb3
              have hs3 := hb9.size
              go_wp2_with fail
              refine hK.out _ _ ?hS (fun hHeld => ?_)
              case hS => exact ⟨s0, s2⟩
              clear hK K
              try simp only [Act.put, List.setIfInBounds_toArray, List.set_cons_zero, List.set_cons_succ]
              refine wpAnyH_ready (rs := [1]) (by kernel_rfl) (by simp) ?_
              refine AllReadyH.cons (o := _) (by rw [List.getElem?_toArray]; rfl) (fun K hK => ?_) AllReadyH.nil
              go_simp
              have hbf : Below w3.heap.size w3 (w3.alloc (.cells #[.string ⟨#[]⟩, .string ⟨#[61]⟩, .string ⟨#[33, 61]⟩, .string ⟨#[94, 61]⟩] 9)) := (Below.refl _ w3).alloc (Nat.le_refl _) _
              have t0 := (hbf.cell (p := ⟨b, off + k * 3, none⟩) (by simp; omega)).trans s0
              have t2 := (hbf.cell (p := ⟨b, off + k * 3 + 2, none⟩) (by simp; omega)).trans s2
              have t4 := (Arr.new w3 9 #[.string ⟨#[]⟩, .string ⟨#[61]⟩, .string ⟨#[33, 61]⟩, .string ⟨#[94, 61]⟩]).at_ (i := 3) (v := .string ⟨#[94, 61]⟩) rfl
              refine hK.out _ _ ?hS (fun hHeld => ?_)
              case hS => exact ⟨t0, t2⟩
              clear hK K
              try simp only [Act.put, List.setIfInBounds_toArray, List.set_cons_zero, List.set_cons_succ]
              refine wpAnyH_take (i := 7) (oi := _) (v := ?_) (by rw [List.getElem?_toArray]; rfl) (by kernel_rfl) (by kernel_rfl) (by kernel_rfl) (by exact fun _ _ _ h => h) (Or.inl ⟨by rfl, ?_⟩) (by assumption) ?_
              rotate_left
              · (intro w9 hSw; (try dsimp only at hSw); go_simp; first | done | with_reducible rfl)
              try simp only [Act.put, List.setIfInBounds_toArray, List.set_cons_zero, List.set_cons_succ]
              refine wpAnyH_ready (rs := [8]) (by kernel_rfl) (by simp) ?_
              refine AllReadyH.cons (o := _) (by rw [List.getElem?_toArray]; rfl) (fun K hK => ?_) AllReadyH.nil
              go_simp
              refine hK.out _ _ ?hS (fun hHeld => ?_)
              case hS => exact ⟨t0, t2⟩
              clear hK K
              try simp only [Act.put, List.setIfInBounds_toArray, List.set_cons_zero, List.set_cons_succ]
              refine wpAnyH_take (i := 9) (oi := _) (v := ?_) (by rw [List.getElem?_toArray]; rfl) (by kernel_rfl) (by kernel_rfl) (by kernel_rfl) (by exact fun _ _ _ h => h) (Or.inl ⟨by rfl, ?_⟩) (by assumption) ?_
              rotate_left
              · (intro w9 hSw; (try dsimp only at hSw); go_simp; first | done | with_reducible rfl)
              try simp only [Act.put, List.setIfInBounds_toArray, List.set_cons_zero, List.set_cons_succ]
              refine wpAnyH_take (i := 16) (oi := _) (v := ?_) (by rw [List.getElem?_toArray]; rfl) (by kernel_rfl) (by kernel_rfl) (by kernel_rfl) (by exact fun _ _ _ h => h) (Or.inl ⟨by rfl, ?_⟩) (by assumption) ?_
              rotate_left
              · (intro w9 hSw; (try dsimp only at hSw); go_simp; first | done | with_reducible rfl)
              try simp only [Act.put, List.setIfInBounds_toArray, List.set_cons_zero, List.set_cons_succ]
              refine wpAnyH_take (i := 17) (oi := _) (v := ?_) (by rw [List.getElem?_toArray]; rfl) (by kernel_rfl) (by kernel_rfl) (by kernel_rfl) (by exact fun _ _ _ h => h) (Or.inl ⟨by rfl, ?_⟩) (by assumption) ?_
              rotate_left
              · (intro w9 hSw; (try dsimp only at hSw); go_simp; first | done | with_reducible rfl)
              try simp only [Act.put, List.setIfInBounds_toArray, List.set_cons_zero, List.set_cons_succ]
              refine wpAnyH_done (by kernel_rfl) ?_ _
              have HB : Hid (Below w.heap.size w (w3.alloc (.cells #[.string ⟨#[]⟩, .string ⟨#[61]⟩, .string ⟨#[33, 61]⟩, .string ⟨#[94, 61]⟩] 9))) := (hb.trans (hb9.mono hs)).alloc (by omega) _
              go_wp2_with fail
              go_roundw
              case rel => exact ⟨k + 1, by omega, by go_num, by rw [HF.out], HB.out⟩
              case measure => simp [intOf]; omega
            go_simp
            refine hK.out _ _ ?hS (fun hHeld => ?_)
            case hS => exact ⟨r0, r2⟩
            clear hK K
            try simp only [Act.put, List.setIfInBounds_toArray, List.set_cons_zero, List.set_cons_succ]
            refine wpAnyH_take (i := 7) (oi := _) (v := ?_) (by rw [List.getElem?_toArray]; rfl) (by kernel_rfl) (by kernel_rfl) (by kernel_rfl) (by exact fun _ _ _ h => h) (Or.inl ⟨by rfl, ?_⟩) (by assumption) ?_
            rotate_left
            · (intro w9 hSw; (try dsimp only at hSw); go_simp; first | done | with_reducible rfl)
            try simp only [Act.put, List.setIfInBounds_toArray, List.set_cons_zero, List.set_cons_succ]
            refine wpAnyH_ready (rs := [8, 15]) (by kernel_rfl) (by simp) ?_
            refine AllReadyH.cons (o := _) (by rw [List.getElem?_toArray]; rfl) (fun K hK => ?_) ?nx2
            case nx2 =>
              refine AllReadyH.cons (o := _) (by rw [List.getElem?_toArray]; rfl) (fun K hK => ?_) AllReadyH.nil
              go_simp
              refine (HQ.out _).mono ?_
              rintro e w3 ⟨rfl, hb3⟩
              have s0 := (hb3.cell (p := ⟨b, off + k * 3, none⟩) (by simp; omega)).trans r0
              have s2 := (hb3.cell (p := ⟨b, off + k * 3 + 2, none⟩) (by simp; omega)).trans r2
              have s4 := (hb3.cell (p := ⟨wc.heap.size, 3, none⟩) (by simp)).trans r4
              have hb9 : Below wc.heap.size wc w3 := ((Below.refl _ wc).alloc (Nat.le_refl _) (.cells #[.string ⟨#[]⟩, .string ⟨#[61]⟩, .string ⟨#[33, 61]⟩, .string ⟨#[94, 61]⟩] 9)).drew.trans (hb3.mono (by simp))
              go_wp2_with fail
              refine hK.out _ _ ?hS (fun hHeld => ?_)
              case hS => exact ⟨s0, s2⟩
              clear hK K
              try simp only [Act.put, List.setIfInBounds_toArray, List.set_cons_zero, List.set_cons_succ]
              refine wpAnyH_ready (rs := [8]) (by kernel_rfl) (by simp) ?_
              refine AllReadyH.cons (o := _) (by rw [List.getElem?_toArray]; rfl) (fun K hK => ?_) AllReadyH.nil
              go_simp
              refine hK.out _ _ ?hS (fun hHeld => ?_)
              case hS => exact ⟨s0, s2⟩
              clear hK K
              try simp only [Act.put, List.setIfInBounds_toArray, List.set_cons_zero, List.set_cons_succ]
              refine wpAnyH_take (i := 9) (oi := _) (v := ?_) (by rw [List.getElem?_toArray]; rfl) (by kernel_rfl) (by kernel_rfl) (by kernel_rfl) (by exact fun _ _ _ h => h) (Or.inl ⟨by rfl, ?_⟩) (by assumption) ?_
              rotate_left
              · (intro w9 hSw; (try dsimp only at hSw); go_simp; first | done | with_reducible rfl)
              try simp only [Act.put, List.setIfInBounds_toArray, List.set_cons_zero, List.set_cons_succ]
              refine wpAnyH_take (i := 16) (oi := _) (v := ?_) (by rw [List.getElem?_toArray]; rfl) (by kernel_rfl) (by kernel_rfl) (by kernel_rfl) (by exact fun _ _ _ h => h) (Or.inl ⟨by rfl, ?_⟩) (by assumption) ?_
              rotate_left
              · (intro w9 hSw; (try dsimp only at hSw); go_simp; first | done | with_reducible rfl)
              try simp only [Act.put, List.setIfInBounds_toArray, List.set_cons_zero, List.set_cons_succ]
              refine wpAnyH_take (i := 17) (oi := _) (v := ?_) (by rw [List.getElem?_toArray]; rfl) (by kernel_rfl) (by kernel_rfl) (by kernel_rfl) (by exact fun _ _ _ h => h) (Or.inl ⟨by rfl, ?_⟩) (by assumption) ?_
              rotate_left
              · (intro w9 hSw; (try dsimp only at hSw); go_simp; first | done | with_reducible rfl)
              try simp only [Act.put, List.setIfInBounds_toArray, List.set_cons_zero, List.set_cons_succ]
              refine wpAnyH_done (by kernel_rfl) ?_ _
              have HB : Hid (Below w.heap.size w w3) := hb.trans (hb9.mono hs)
              go_wp2_with fail
              go_roundw
              case rel => exact ⟨k + 1, by omega, by go_num, by rw [HF.out], HB.out⟩
              case measure => simp [intOf]; omega
            go_simp
            refine hK.out _ _ ?hS (fun hHeld => ?_)
            case hS => exact ⟨r0, r2⟩
            clear hK K
            try simp only [Act.put, List.setIfInBounds_toArray, List.set_cons_zero, List.set_cons_succ]
            refine wpAnyH_take (i := 9) (oi := _) (v := ?_) (by rw [List.getElem?_toArray]; rfl) (by kernel_rfl) (by kernel_rfl) (by kernel_rfl) (by exact fun _ _ _ h => h) (Or.inl ⟨by rfl, ?_⟩) (by assumption) ?_
            rotate_left
            · (intro w9 hSw; (try dsimp only at hSw); go_simp; first | done | with_reducible rfl)
            try simp only [Act.put, List.setIfInBounds_toArray, List.set_cons_zero, List.set_cons_succ]
            refine wpAnyH_ready (rs := [15]) (by kernel_rfl) (by simp) ?_
            refine AllReadyH.cons (o := _) (by rw [List.getElem?_toArray]; rfl) (fun K hK => ?_) AllReadyH.nil
            go_simp
            refine (HQ.out _).mono ?_
            rintro e w3 ⟨rfl, hb3⟩
            have s0 := (hb3.cell (p := ⟨b, off + k * 3, none⟩) (by simp; omega)).trans r0
            have s2 := (hb3.cell (p := ⟨b, off + k * 3 + 2, none⟩) (by simp; omega)).trans r2
            have s4 := (hb3.cell (p := ⟨wc.heap.size, 3, none⟩) (by simp)).trans r4
            have hb9 : Below wc.heap.size wc w3 := ((Below.refl _ wc).alloc (Nat.le_refl _) (.cells #[.string ⟨#[]⟩, .string ⟨#[61]⟩, .string ⟨#[33, 61]⟩, .string ⟨#[94, 61]⟩] 9)).drew.trans (hb3.mono (by simp))
            go_wp2_with fail
            refine hK.out _ _ ?hS (fun hHeld => ?_)
            case hS => exact ⟨s0, s2⟩
            clear hK K
            try simp only [Act.put, List.setIfInBounds_toArray, List.set_cons_zero, List.set_cons_succ]
            refine wpAnyH_take (i := 16) (oi := _) (v := ?_) (by rw [List.getElem?_toArray]; rfl) (by kernel_rfl) (by kernel_rfl) (by kernel_rfl) (by exact fun _ _ _ h => h) (Or.inl ⟨by rfl, ?_⟩) (by assumption) ?_
            rotate_left
            · (intro w9 hSw; (try dsimp only at hSw); go_simp; first | done | with_reducible rfl)
            try simp only [Act.put, List.setIfInBounds_toArray, List.set_cons_zero, List.set_cons_succ]
            refine wpAnyH_take (i := 17) (oi := _) (v := ?_) (by rw [List.getElem?_toArray]; rfl) (by kernel_rfl) (by kernel_rfl) (by kernel_rfl) (by exact fun _ _ _ h => h) (Or.inl ⟨by rfl, ?_⟩) (by assumption) ?_
            rotate_left
            · (intro w9 hSw; (try dsimp only at hSw); go_simp; first | done | with_reducible rfl)
            try simp only [Act.put, List.setIfInBounds_toArray, List.set_cons_zero, List.set_cons_succ]
            refine wpAnyH_done (by kernel_rfl) ?_ _
            have HB : Hid (Below w.heap.size w w3) := hb.trans (hb9.mono hs)
            go_wp2_with fail
            go_roundw
            case rel => exact ⟨k + 1, by omega, by go_num, by rw [HF.out], HB.out⟩
            case measure => simp [intOf]; omega
          · have HF : Hid (P1 = bs (rT l (k + 1))) := by
              show _ = _
              have hmi : mitem (4, nm, vl) = nm.data.toList := by
                unfold mitem
                rw [if_pos rfl]
              rw [hrs, HP1.out, HP0.out, hmi]
              apply ByteArray.ext
              simp [bs]
            clear hrs
            go_wp2_with fail
            go_roundw
            case rel => exact ⟨k + 1, by omega, by go_num, by rw [HF.out], hb⟩
            case measure => simp [intOf]; omega
        · obtain rfl : k = n := by omega
          have hall : rT l k = mtextL l := by
            rw [HM.out]
            unfold rT mTo
            rw [← hr.1, List.take_length]
          have HA : Hid (T = bs (mtextL l)) := by
            show _ = _
            rw [← hall, HT.out]
          clear hall
          go_wp2_with fail
          go_ret
          exact ⟨by rw [HA.out]; rfl, hb⟩
  · have hm : mtextL l = [] := by unfold mtextL; rw [if_pos h0]
    have hck := hck w hr
    obtain ⟨E, hE⟩ : ∃ E, E = chkE l := ⟨_, rfl⟩
    rw [← hE] at hck h0
    have e1 : (E != 0) = true := by simpa using h0
    have HM := Lib.hid hm
    have HCK := Lib.hid hck
    clear hm hck hE h0
    go_enter Tryd.func20, Tryd.ntmps20
    go_wp2_with fail
    refine HCK.out.mono ?_
    rintro e w1 ⟨rfl, hw1⟩; rw [hw1]; clear hw1 w1
    go_wp2_with fail
    go_ret
    exact ⟨by rw [HM.out]; rfl, Below.refl _ _⟩
end Go.Proofs.YtlicnadbccjbjaaDoor
