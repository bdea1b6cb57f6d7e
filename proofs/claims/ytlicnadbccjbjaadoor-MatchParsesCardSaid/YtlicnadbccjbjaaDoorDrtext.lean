/- What the reference's Text answers: as labels.Text. No conditions. -/
import Derived.Test.YtlicnadbccjbjaaDoorDquot
import Derived.Test.YtlicnadbccjbjaaDoorRMake
namespace Go.Proofs.YtlicnadbccjbjaaDoor
open Go.RowKit LB

def sTo (m : List Lab) (k : Nat) : List UInt8 := if k = 0 then [123] else tTo m k
theorem sTo_zero {m : List Lab} {x : Lab} (h : m[0]? = some x) : sTo m 1 = sTo m 0 ++ (x.1.data.toList ++ 61 :: quoteL x.2) := by
  have := tTo_succ h
  unfold sTo
  rw [if_neg (by decide), if_pos rfl]
  show tTo m (0 + 1) = _
  rw [this]
  simp [tTo, itemsL, itemL]
theorem sTo_succ {m : List Lab} {k : Nat} {x : Lab} (hk : k ≠ 0) (h : m[k]? = some x) : sTo m (k + 1) = sTo m k ++ 44 :: (x.1.data.toList ++ 61 :: quoteL x.2) := by
  have := tTo_succ h
  unfold sTo
  rw [if_neg (by omega), if_neg hk, this]
  simp [itemL, hk]
theorem sTo_len {m : List Lab} (h : ∀ x ∈ m, x.1.size ≤ 64 ∧ x.2.size ≤ 64) (k : Nat) (hk : k ≤ m.length) : (sTo m k).length ≤ 1 + 300 * k := by
  unfold sTo
  split
  · simp
  · have := tTo_len h k hk; omega

set_option maxRecDepth 100000 in
set_option maxHeartbeats 4000000 in
theorem rtext11 (A : Option Addr) (n c B : Nat) (l : List Lab) (w : World) (hr : Lv w B A n l) (hB : B ≤ w.heap.size) :
    Calls Tryd.prog 11 #[.slice A n c] w fun e w' => e = .returned (.string (bs (textL l))) ∧ Below w.heap.size w w' := by
  have hmk := rmake_any A n c B l w hr hB
  unfold RPost at hmk
  cases hm : mkL l with
  | none =>
    have ht : textL l = [] := by unfold textL; rw [hm]
    have hE : mkE l = 20 := by unfold mkE; rw [if_pos hm]
    rw [hE] at hmk
    rw [ht]
    have HMK := Lib.hid hmk
    clear hmk hE ht hm
    go_enter Tryd.func11, Tryd.ntmps11
    go_wp2_with fail
    refine HMK.out.mono ?_
    rintro e w2 ⟨v, rfl, hown, hb⟩
    go_wp2_with fail
    go_ret
    exact ⟨rfl, hb⟩
  | some m =>
    obtain ⟨h1, h2, h3, h4, _, _⟩ := mkL_small hm
    have ht : textL l = textM m := by unfold textL; rw [hm]
    have hE : mkE l = 0 := by unfold mkE; rw [if_neg (by rw [hm]; simp)]
    have hR : mkR l = m := by unfold mkR; rw [hm]; rfl
    obtain ⟨N, hN⟩ : ∃ N, N = m.length := ⟨_, rfl⟩
    rw [hE, hR, ← hN] at hmk
    rw [← hN] at h2 h3
    rw [ht]
    have HMK := Lib.hid hmk
    have HN := Lib.hid hN
    have H4 := Lib.hid h4
    clear hE hR hm ht h1 hN hmk h4
    go_enter Tryd.func11, Tryd.ntmps11
    go_wp2_with fail
    refine HMK.out.mono ?_
    rintro e w1 ⟨v, rfl, hown, hb⟩
    obtain ⟨A1, c1, rfl, hlv, hc1, hc2⟩ := Lv.of_own hown
    have HOWN := Lib.hid hown
    clear hown
    go_wp2_with fail
    go_loopw [5, 6] (fun t i wr => ∃ k : Nat, k ≤ N ∧ i = .int .i64 k ∧ t = .string (bs (sTo m k)) ∧ Below w1.heap.size w1 wr) (fun _ i _ => N - (intOf i).toNat)
    case atStart => exact ⟨0, Nat.zero_le _, rfl, rfl, Below.refl _ w1⟩
    case round =>
      obtain ⟨k, hk, rfl, rfl, hbe⟩ := hrel
      have hsz := hbe.size
      have hsl := sTo_len H4.out k (by rw [← HN.out]; exact hk)
      obtain ⟨T, hT⟩ : ∃ T : ByteArray, T = bs (sTo m k) := ⟨_, rfl⟩
      have hTs : T.size ≤ 1 + 300 * k := by rw [hT, bs_size]; exact hsl
      rw [← hT]
      have HT := Lib.hid hT
      clear hsl hT
      by_cases hlt : k < N
      · obtain ⟨x, hx⟩ : ∃ x, m[k]? = some x := ⟨_, List.getElem?_eq_getElem (by rw [← HN.out]; exact hlt)⟩
        obtain ⟨b, off, rfl, hbB, hcc⟩ := (hlv.below hbe).at2 hlt
        obtain ⟨c0, c1⟩ := hcc k x hx
        have hx64 := H4.out x (List.mem_of_getElem? hx)
        have hs0 := fun h : k = 0 => sTo_zero (m := m) (x := x) (by rw [← h]; exact hx)
        have hs1 := fun h : k ≠ 0 => sTo_succ h hx
        obtain ⟨xn, xv⟩ := x
        obtain ⟨z1, z2⟩ := hx64
        dsimp only at z1 z2
        have hq := fun W => quoted29 xv W (by omega)
        obtain ⟨QT, hQT⟩ : ∃ QT : ByteArray, QT = ⟨(quoteL xv).toArray⟩ := ⟨_, rfl⟩
        have hQTs : QT.size ≤ 194 := by
          rw [hQT]
          show (quoteL xv).length ≤ 194
          have := quoteL_len xv; omega
        simp only [← hQT] at hq
        have HQ := Lib.hid hq
        have zk : (k : Int) < (N : Int) := by omega
        have zk0 : (0 : Int) ≤ (k : Int) := by omega
        clear hq hcc hx
        by_cases hk0 : k = 0
        · have d0 : decide (0 < k) = false := decide_eq_false (by omega)
          have d1 : decide ((0 : Int) < (k : Int)) = false := decide_eq_false (by omega)
          obtain ⟨P, hP⟩ : ∃ P : ByteArray, P = T := ⟨_, rfl⟩
          have hPs : P.size ≤ 2 + 300 * k := by rw [hP]; omega
          have HP : Hid (P.data.toList ++ (xn.data.toList ++ 61 :: quoteL xv) = sTo m (k + 1)) := by
            show _ = _
            subst hk0
            rw [hs0 rfl, hP, HT.out, bs_data]
          subst hP
          clear hk0 hs0 hs1
          obtain ⟨P1, hP1⟩ : ∃ P1 : ByteArray, P1 = P ++ xn := ⟨_, rfl⟩
          obtain ⟨P2, hP2⟩ : ∃ P2 : ByteArray, P2 = P1 ++ ⟨#[61]⟩ := ⟨_, rfl⟩
          obtain ⟨P3, hP3⟩ : ∃ P3 : ByteArray, P3 = P2 ++ QT := ⟨_, rfl⟩
          have hs61 : (⟨#[61]⟩ : ByteArray).size = 1 := rfl
          have hP1s : P1.size ≤ 66 + 300 * k := by rw [hP1, ByteArray.size_append]; omega
          have hP2s : P2.size ≤ 67 + 300 * k := by rw [hP2, ByteArray.size_append, hs61]; omega
          have add1 : ∀ W, (Op.stringOp .add P xn).run Tryd.prog W = .ok (.string P1) W := fun W => by rw [hP1]; exact run_string_add_sum W _ _ (by omega)
          have add2 : ∀ W, (Op.stringOp .add P1 ⟨#[61]⟩).run Tryd.prog W = .ok (.string P2) W := fun W => by rw [hP2]; exact run_string_add_sum W _ _ (by omega)
          have add3 : ∀ W, (Op.stringOp .add P2 QT).run Tryd.prog W = .ok (.string P3) W := fun W => by rw [hP3]; exact run_string_add_sum W _ _ (by omega)
          have HF : Hid (P3 = bs (sTo m (k + 1))) := by
            show _ = _
            rw [← HP.out, hP3, hP2, hP1, hQT]
            apply ByteArray.ext
            simp [bs]
          clear hP1 hP2 hP3 hQT hs61
          go_wp2_with fail
          go_region_held3 (fun w' => w'.cell? ⟨b, off + k * 2, none⟩ = some (.string xn) ∧ w'.cell? ⟨b, off + k * 2 + 1, none⟩ = some (.string xv)) (first | go_keep | exact ⟨s0, s1⟩) ((go_at_call 29; refine (HQ.out _).mono ?_; rintro e w3 ⟨rfl, hb3⟩; have s0 := (hb3.cell (p := ⟨b, off + k * 2, none⟩) (by simp; omega)).trans c0; have s1 := (hb3.cell (p := ⟨b, off + k * 2 + 1, none⟩) (by simp; omega)).trans c1))
          all_goals
            have hb4 : Below wr.heap.size wr w3 := (Below.refl _ _).drew.trans hb3
            clear hb3 s0 s1
            go_wp2_with fail
            go_roundw
            case rel => exact ⟨k + 1, by omega, by go_num, by rw [HF.out], hbe.trans (hb4.mono hsz)⟩
            case measure => simp [intOf]; omega
        · have d0 : decide (0 < k) = true := decide_eq_true (by omega)
          have d1 : decide ((0 : Int) < (k : Int)) = true := decide_eq_true (by omega)
          obtain ⟨P, hP⟩ : ∃ P : ByteArray, P = T ++ ⟨#[44]⟩ := ⟨_, rfl⟩
          have hPs : P.size ≤ 2 + 300 * k := by rw [hP, ByteArray.size_append, show (⟨#[44]⟩ : ByteArray).size = 1 from rfl]; omega
          have add0 : ∀ W, (Op.stringOp .add T ⟨#[44]⟩).run Tryd.prog W = .ok (.string P) W := fun W => by
            rw [hP]; exact run_string_add_sum W _ _ (by have : (⟨#[44]⟩ : ByteArray).size = 1 := rfl; omega)
          have HP : Hid (P.data.toList ++ (xn.data.toList ++ 61 :: quoteL xv) = sTo m (k + 1)) := by
            show _ = _
            rw [hs1 hk0, hP, HT.out]
            simp [bs_data]
          clear hk0 hs0 hs1 hP
          obtain ⟨P1, hP1⟩ : ∃ P1 : ByteArray, P1 = P ++ xn := ⟨_, rfl⟩
          obtain ⟨P2, hP2⟩ : ∃ P2 : ByteArray, P2 = P1 ++ ⟨#[61]⟩ := ⟨_, rfl⟩
          obtain ⟨P3, hP3⟩ : ∃ P3 : ByteArray, P3 = P2 ++ QT := ⟨_, rfl⟩
          have hs61 : (⟨#[61]⟩ : ByteArray).size = 1 := rfl
          have hP1s : P1.size ≤ 66 + 300 * k := by rw [hP1, ByteArray.size_append]; omega
          have hP2s : P2.size ≤ 67 + 300 * k := by rw [hP2, ByteArray.size_append, hs61]; omega
          have add1 : ∀ W, (Op.stringOp .add P xn).run Tryd.prog W = .ok (.string P1) W := fun W => by rw [hP1]; exact run_string_add_sum W _ _ (by omega)
          have add2 : ∀ W, (Op.stringOp .add P1 ⟨#[61]⟩).run Tryd.prog W = .ok (.string P2) W := fun W => by rw [hP2]; exact run_string_add_sum W _ _ (by omega)
          have add3 : ∀ W, (Op.stringOp .add P2 QT).run Tryd.prog W = .ok (.string P3) W := fun W => by rw [hP3]; exact run_string_add_sum W _ _ (by omega)
          have HF : Hid (P3 = bs (sTo m (k + 1))) := by
            show _ = _
            rw [← HP.out, hP3, hP2, hP1, hQT]
            apply ByteArray.ext
            simp [bs]
          clear hP1 hP2 hP3 hQT hs61
          go_wp2_with fail
          go_region_held3 (fun w' => w'.cell? ⟨b, off + k * 2, none⟩ = some (.string xn) ∧ w'.cell? ⟨b, off + k * 2 + 1, none⟩ = some (.string xv)) (first | go_keep | exact ⟨s0, s1⟩) ((go_at_call 29; refine (HQ.out _).mono ?_; rintro e w3 ⟨rfl, hb3⟩; have s0 := (hb3.cell (p := ⟨b, off + k * 2, none⟩) (by simp; omega)).trans c0; have s1 := (hb3.cell (p := ⟨b, off + k * 2 + 1, none⟩) (by simp; omega)).trans c1))
          all_goals
            have hb4 : Below wr.heap.size wr w3 := (Below.refl _ _).drew.trans hb3
            clear hb3 s0 s1
            go_wp2_with fail
            go_roundw
            case rel => exact ⟨k + 1, by omega, by go_num, by rw [HF.out], hbe.trans (hb4.mono hsz)⟩
            case measure => simp [intOf]; omega
      · obtain rfl : k = N := by omega
        have hfin : sTo m k ++ [125] = textM m := by
          unfold sTo
          rw [if_neg (by omega), HN.out]; exact textM_to m
        have HA : Hid ((T ++ ⟨#[125]⟩ : ByteArray) = bs (textM m)) := by
          show _ = _
          rw [← hfin, HT.out]
          apply ByteArray.ext
          simp [bs]
        clear hfin
        go_wp2_with fail
        go_ret
        exact ⟨by rw [HA.out]; rfl, hb.trans (hbe.mono hb.size)⟩
end Go.Proofs.YtlicnadbccjbjaaDoor
