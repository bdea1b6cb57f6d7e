/- What match.Text answers: the text of matchers, or none. Conditions: sizes within the form's reach. -/
import Derived.Test.YtlicnadbccjbjaaDoorMrfits
namespace Go.Proofs.YtlicnadbccjbjaaDoor
open Go.RowKit LB

theorem Tryd.info9 : (Tryd.prog.info? 9).map (fun i => (i.zero, i.size, i.bytes)) = some (some (.string ⟨#[]⟩), 1, 16) := by kernel_rfl
/-- The sign of a kind. -/
def signL (k : Int) : List UInt8 := if k = 1 then [61] else if k = 2 then [33, 61] else if k = 3 then [94, 61] else []
/-- One matcher's text. -/
def mitem (m : Mat) : List UInt8 := if m.1 = 4 then m.2.1.data.toList else m.2.1.data.toList ++ (signL m.1 ++ quoteL m.2.2)
def mtextL (l : List Mat) : List UInt8 := if chkE l ≠ 0 then [] else if l = [] then [42] else Lib.join (l.map mitem) [44]
/-- The cells of texts. -/
def sv (l : List (List UInt8)) : List Value := l.map fun s => .string ⟨s.toArray⟩
theorem mitem_len {m : Mat} (h : matOK m = true) : (mitem m).length ≤ 300 := by
  have h1 : m.2.1.size ≤ 64 ∧ m.2.2.size ≤ 64 := by
    unfold matOK nameB at h
    simp only [Bool.and_eq_true, decide_eq_true_eq] at h
    omega
  have h2 := quoteL_len m.2.2
  have h3 : (signL m.1).length ≤ 2 := by unfold signL; split; simp; split; simp; split <;> simp
  unfold mitem
  split
  · simp; omega
  · simp; omega
theorem join_cons (a b : List UInt8) (r : List (List UInt8)) : Lib.join (a :: b :: r) [44] = a ++ 44 :: Lib.join (b :: r) [44] := by simp [Lib.join, List.intercalate]
theorem join_one (a : List UInt8) : Lib.join [a] [44] = a := by simp [Lib.join, List.intercalate]
theorem join_len (l : List (List UInt8)) (h : ∀ x ∈ l, x.length ≤ 300) : (Lib.join l [44]).length ≤ 301 * l.length := by
  induction l with
  | nil => simp [Lib.join]
  | cons a r ih =>
    have ha := h a List.mem_cons_self
    have hr := ih fun x hx => h x (List.mem_cons_of_mem _ hx)
    cases r with
    | nil => rw [join_one]; simp; omega
    | cons b r =>
      rw [join_cons]
      simp only [List.length_append, List.length_cons] at hr ⊢
      omega

theorem sign_at1 (W : World) : (Instr.index 86 (.agg #[.string ⟨#[]⟩, .string ⟨#[61]⟩, .string ⟨#[33, 61]⟩, .string ⟨#[94, 61]⟩, .string ⟨#[]⟩]) (.int .i64 1)).run Tryd.prog W = .ok (.string ⟨#[61]⟩) W := by kernel_rfl
theorem sign_at2 (W : World) : (Instr.index 86 (.agg #[.string ⟨#[]⟩, .string ⟨#[61]⟩, .string ⟨#[33, 61]⟩, .string ⟨#[94, 61]⟩, .string ⟨#[]⟩]) (.int .i64 2)).run Tryd.prog W = .ok (.string ⟨#[33, 61]⟩) W := by kernel_rfl
theorem sign_at3 (W : World) : (Instr.index 86 (.agg #[.string ⟨#[]⟩, .string ⟨#[61]⟩, .string ⟨#[33, 61]⟩, .string ⟨#[94, 61]⟩, .string ⟨#[]⟩]) (.int .i64 3)).run Tryd.prog W = .ok (.string ⟨#[94, 61]⟩) W := by kernel_rfl

set_option maxRecDepth 100000 in
theorem sign42 (k : Int) (w : World) (h : k = 1 ∨ k = 2 ∨ k = 3) : Calls Tryd.prog 36 #[.int .i64 k] w fun e w' => e = .returned (.string ⟨(signL k).toArray⟩) ∧ w' = w := by
  rcases h with rfl | rfl | rfl
  · go_enter Tryd.func36, Tryd.ntmps36
    go_wp2_with fail
    rw [sign_at1]
    simp only [Result.andThen]
    rw [Oper.upon_value]
    go_wp2_with fail
    go_ret
    exact ⟨rfl, rfl⟩
  · go_enter Tryd.func36, Tryd.ntmps36
    go_wp2_with fail
    rw [sign_at2]
    simp only [Result.andThen]
    rw [Oper.upon_value]
    go_wp2_with fail
    go_ret
    exact ⟨rfl, rfl⟩
  · go_enter Tryd.func36, Tryd.ntmps36
    go_wp2_with fail
    rw [sign_at3]
    simp only [Result.andThen]
    rw [Oper.upon_value]
    go_wp2_with fail
    go_ret
    exact ⟨rfl, rfl⟩

theorem sv_len (l : List (List UInt8)) : (sv l).length = l.length := by simp [sv]
/-- The texts when k are done. -/
def mTo (l : List Mat) (k : Nat) : List (List UInt8) := (l.take k).map mitem
theorem mTo_succ {l : List Mat} {k : Nat} {x : Mat} (h : l[k]? = some x) : mTo l (k + 1) = mTo l k ++ [mitem x] := by
  obtain ⟨hk, he⟩ := List.getElem?_eq_some_iff.1 h
  unfold mTo
  rw [List.take_succ_eq_append_getElem hk, he, List.map_append]; rfl
theorem ok_sizes {kd : Int} {nm vl : ByteArray} (h : matOK (kd, nm, vl) = true) : nm.size ≤ 64 ∧ vl.size ≤ 64 ∧ 1 ≤ kd ∧ kd ≤ 4 := by
  unfold matOK nameB knownB at h
  simp only [Bool.and_eq_true, decide_eq_true_eq] at h
  omega

set_option maxRecDepth 100000 in
set_option maxHeartbeats 4000000 in
theorem mtext30 (A : Option Addr) (n c B : Nat) (l : List Mat) (w : World) (hr : Mv w B A n l) (hB : B ≤ w.heap.size) :
    Calls Tryd.prog 19 #[.slice A n c] w fun e w' => e = .returned (.string ⟨(mtextL l).toArray⟩) ∧ Below w.heap.size w w' := by
  obtain ⟨i0, hi, hz0, hz1, hz2⟩ := info_parts Tryd.info9
  have hck := check18 A n c B l w hr hB
  by_cases h0 : chkE l = 0
  · rw [h0] at hck
    have hok := (chk_mem h0).2
    have hn8 : n ≤ 8 := by have h1 := (chk_mem h0).1; have h2 := hr.1; omega
    have HOK := Lib.hid (And.intro h0 hok)
    have HCK := Lib.hid hck
    clear hck hok
    by_cases hn0 : n = 0
    · have hl : l = [] := List.eq_nil_of_length_eq_zero (by rw [hr.1]; exact hn0)
      have hm : mtextL l = [42] := by unfold mtextL; rw [if_neg (by rw [h0]; simp), if_pos hl]
      have HM := Lib.hid hm
      have e0 : (((n : Nat) : Int) == 0) = true := by rw [hn0]; rfl
      clear hm hl hn0 h0
      go_enter Tryd.func19, Tryd.ntmps19
      go_wp2_with fail
      refine HCK.out.mono ?_
      rintro e w1 ⟨rfl, hb1⟩
      go_wp2_with fail
      go_ret
      exact ⟨by rw [HM.out]; rfl, hb1⟩
    · have hl : l ≠ [] := by intro h; rw [h] at hr; exact hn0 hr.1.symm
      have hm : mtextL l = Lib.join (l.map mitem) [44] := by unfold mtextL; rw [if_neg (by rw [h0]; simp), if_neg hl]
      have HM := Lib.hid hm
      have e0 : (((n : Nat) : Int) == 0) = false := by rw [beq_eq_false_iff_ne]; omega
      clear hm hl h0
      go_enter Tryd.func19, Tryd.ntmps19
      go_wp2_with fail
      refine HCK.out.mono ?_
      rintro e w1 ⟨rfl, hb1⟩
      have hs1 := hb1.size
      go_wp2_with fail
      go_loopw [3, 15] (fun v i wr => ∃ k : Nat, k ≤ n ∧ i = .int .i64 k ∧ wr.ownsRow w1.heap.size 9 1 v k (sv (mTo l k)) ∧ Below w1.heap.size w1 wr) (fun _ i _ => n - (intOf i).toNat)
      case atStart => exact ⟨0, Nat.zero_le _, rfl, World.ownsRow_nil _ _ _ _, Below.refl _ _⟩
      case round =>
        obtain ⟨k, hk, rfl, hown, hb⟩ := hrel
        have hs := hb.size
        have hbw := hb1.trans (hb.mono hs1)
        have hsw := hbw.size
        by_cases hlt : k < n
        · obtain ⟨x, hx⟩ : ∃ x, l[k]? = some x := ⟨_, List.getElem?_eq_getElem (by rw [hr.1]; exact hlt)⟩
          obtain ⟨b, off, rfl, hbb, hcc⟩ := (hr.below (hbw.mono hB)).at3 hlt
          obtain ⟨p0, p1, p2⟩ := hcc k x hx
          have hxok := HOK.out.2 x (List.mem_of_getElem? hx)
          have hms := mTo_succ hx
          obtain ⟨kd, nm, vl⟩ := x
          obtain ⟨z1, z2, z3, z4⟩ := ok_sizes hxok
          obtain ⟨T, hT⟩ : ∃ T, T = mTo l k := ⟨_, rfl⟩
          rw [← hT] at hown hms
          have HMS := Lib.hid hms
          have HT := Lib.hid hT
          have HH := Lib.hid (And.intro hb hbw)
          obtain ⟨t0, t1, t2⟩ := three_cells wr (.int .i64 kd) (.string nm) (.string vl) 64
          have hcx := Arr.new wr 64 #[.int .i64 kd, .string nm, .string vl]
          have HCX := Lib.hid hcx
          have hown2 := own_kp hown ((Kp.refl (fun _ => False) wr).alloc (.cells #[.int .i64 kd, .string nm, .string vl] 64)) (fun _ _ h => h)
          have HOWN := Lib.hid hown2
          clear hcc hx hms hT hb hbw hcx hown2 hown hxok
          by_cases h4 : kd = 4
          · have e4 : (kd != 4) = false := by simp [h4]
            have HI : Hid (mitem (kd, nm, vl) = nm.data.toList) := by
              show _ = _
              unfold mitem; rw [if_pos h4]
            have hnw := news_row (wr.alloc (.cells #[.int .i64 kd, .string nm, .string vl] 64)) [.string nm] 9
            rw [World.size_alloc] at hnw
            clear h4
            go_wp2_with (at_builtin; refine wpList_append_lies _ rfl (.tmp 33) (.tmp 35) 67 rfl w1.heap.size 9 i0 (.string ⟨#[]⟩) 1 16 Tryd.underlying67 hi hz0 hz1 hz2 rfl (by decide) u3 k (sv T) rfl (HOWN.out.alloc _) ⟨wr.heap.size + 1, 0, none⟩ 1 1 [.string nm] rfl rfl hnw (by simp [Value.oneCell']) (by omega) (by unfold maxLen; omega) (by omega) (by simp; omega) (wr.heap.size + 2) (by simp) ?_; intro r cap w3 hown3 hg3 hat3 hlt3)
            have HF : Hid (w3.ownsRow w1.heap.size 9 1 (.slice (some ⟨r, 0, none⟩) (k + 1) cap) (k + 1) (sv (mTo l (k + 1))) ∧ Below w1.heap.size w1 w3) := by
              refine ⟨?_, ((HH.out.1.alloc hs _).alloc (by simp; omega) _).grown hg3 (by simp; omega) (fun x hx => (HOWN.out.lt x hx).1)⟩
              rw [HMS.out, HI.out]
              unfold sv at hown3 ⊢
              rw [List.map_append]
              exact hown3
            clear hown3 hg3 hat3 hlt3
            go_wp2_with fail
            go_roundw
            case rel => exact ⟨k + 1, by omega, by go_num, HF.out.1, HF.out.2⟩
            case measure => simp [intOf]; omega
          · have e4 : (kd != 4) = true := by simpa using h4
            obtain ⟨SG, hSG⟩ : ∃ SG : ByteArray, SG = ⟨(signL kd).toArray⟩ := ⟨_, rfl⟩
            obtain ⟨QT, hQT⟩ : ∃ QT : ByteArray, QT = ⟨(quoteL vl).toArray⟩ := ⟨_, rfl⟩
            have hSGs : SG.size ≤ 2 := by
              rw [hSG]
              show (signL kd).length ≤ 2
              unfold signL; split; simp; split; simp; split <;> simp
            have hQTs : QT.size ≤ 194 := by
              rw [hQT]
              show (quoteL vl).length ≤ 194
              have := quoteL_len vl; omega
            have hq1 := fun W => sign42 kd W (by omega)
            have hq2 := fun W => quote_any vl W (by omega)
            simp only [← hSG, ← hQT] at hq1 hq2
            have HQ1 := Lib.hid hq1
            have HQ2 := Lib.hid hq2
            obtain ⟨N1, hN1⟩ : ∃ N1 : ByteArray, N1 = SG ++ QT := ⟨_, rfl⟩
            obtain ⟨N2, hN2⟩ : ∃ N2 : ByteArray, N2 = nm ++ N1 := ⟨_, rfl⟩
            have hN1s : N1.size ≤ 196 := by rw [hN1, ByteArray.size_append]; omega
            have add1 : ∀ W, (Op.stringOp .add SG QT).run Tryd.prog W = .ok (.string N1) W := fun W => by rw [hN1]; exact run_string_add_sum W _ _ (by omega)
            have add2 : ∀ W, (Op.stringOp .add nm N1).run Tryd.prog W = .ok (.string N2) W := fun W => by rw [hN2]; exact run_string_add_sum W _ _ (by omega)
            have HI : Hid (N2 = ⟨(mitem (kd, nm, vl)).toArray⟩) := by
              show _ = _
              unfold mitem
              rw [if_neg h4, hN2, hN1, hSG, hQT]
              apply ByteArray.ext
              simp
            clear h4 hq1 hq2 hN1 hN2 hSG hQT
            go_wp2_with fail
            go_region_held3 (fun w' => w'.cell? ⟨wr.heap.size, 0, none⟩ = some (.int .i64 kd) ∧ w'.cell? ⟨wr.heap.size, 2, none⟩ = some (.string vl)) (first | go_keep | exact ⟨s0, s2⟩) (first | (go_at_call 36; refine (HQ1.out _).mono ?_; rintro e w3 ⟨rfl, hw3⟩; rw [hw3]; clear hw3 w3) | (go_at_call 27; refine (HQ2.out _).mono ?_; rintro e w3 ⟨rfl, hb3⟩; have s0 := (hb3.cell (p := ⟨wr.heap.size, 0, none⟩) (by simp)).trans t0; have s2 := (hb3.cell (p := ⟨wr.heap.size, 2, none⟩) (by simp)).trans t2))
            all_goals
              have hb4 : Below (wr.alloc (.cells #[.int .i64 kd, .string nm, .string vl] 64)).heap.size (wr.alloc (.cells #[.int .i64 kd, .string nm, .string vl] 64)) w3 := (Below.refl _ _).drew.trans hb3
              have hs4 := hb4.size
              have hown4 := own_kp HOWN.out (Kp.none_of_below (S := fun _ => False) hb4) (fun _ _ h => h)
              have HB4 := Lib.hid hb4
              simp at hs4
              clear hb3 hb4 s0 s2
              go_wp2_with (at_builtin; refine wpList_append_lies _ rfl (.tmp 33) (.tmp 35) 67 rfl w1.heap.size 9 i0 (.string ⟨#[]⟩) 1 16 Tryd.underlying67 hi hz0 hz1 hz2 rfl (by decide) u3 k (sv T) rfl (hown4.alloc _) ⟨w3.heap.size, 0, none⟩ 1 1 [.string N2] rfl rfl (news_row w3 _ 9) (by simp [Value.oneCell']) (by omega) (by unfold maxLen; omega) (by omega) (by simp; omega) (w3.heap.size + 1) (by simp) ?_; intro r cap w5 hown5 hg5 hat5 hlt5)
              have HF : Hid (w5.ownsRow w1.heap.size 9 1 (.slice (some ⟨r, 0, none⟩) (k + 1) cap) (k + 1) (sv (mTo l (k + 1))) ∧ Below w1.heap.size w1 w5) := by
                refine ⟨?_, (((HH.out.1.alloc hs _).trans (HB4.out.mono (by simp; omega))).alloc (by omega) _).grown hg5 (by simp; omega) (fun x hx => (HOWN.out.lt x hx).1)⟩
                rw [HMS.out]
                unfold sv at hown5 ⊢
                rw [List.map_append, List.map_cons, List.map_nil, ← HI.out]
                exact hown5
              clear hown5 hg5 hat5 hlt5 hown4
              go_wp2_with fail
              go_roundw
              case rel => exact ⟨k + 1, by omega, by go_num, HF.out.1, HF.out.2⟩
              case measure => simp [intOf]; omega
        · obtain rfl : k = n := by omega
          have hall : mTo l k = l.map mitem := by unfold mTo; rw [← hr.1, List.take_length]
          rw [hall] at hown
          obtain ⟨g, cap, cur, rfl, _, hag, hcap, hcm, _⟩ := own_form hown (by omega)
          have hlm : (l.map mitem).length = k := by rw [List.length_map, hr.1]
          have hjl := join_len (l.map mitem) (fun x hx => by
            obtain ⟨y, hy, rfl⟩ := List.mem_map.1 hx
            exact mitem_len (HOK.out.2 y hy))
          have hmm : ((l.map mitem).map fun s => (⟨s.toArray⟩ : ByteArray)).map (·.data.toList) = l.map mitem := by
            rw [List.map_map]
            exact List.map_id'' (by intro x; rfl) _
          have hjn := Tryd.strings_Join g 0 cap ((l.map mitem).map fun s => (⟨s.toArray⟩ : ByteArray)) ⟨#[44]⟩ wr (fun j x hx => by
            rw [Nat.zero_add]
            refine own_cell hown ?_
            rw [List.getElem?_map, Option.map_eq_some_iff] at hx
            obtain ⟨y, hy, rfl⟩ := hx
            unfold sv
            rw [List.getElem?_map, hy]; rfl) hag.lt (by simp; have := hr.1; omega) (by simp; have := hr.1; omega) (by rw [hmm]; show (Lib.join (l.map mitem) [44]).length ≤ _; omega)
          rw [hmm] at hjn
          have hj3 : (Lib.join (l.map mitem) ((⟨#[44]⟩ : ByteArray).data.toList)) = mtextL l := HM.out.symm
          rw [hj3] at hjn
          have hlen : ((l.map mitem).map fun s => (⟨s.toArray⟩ : ByteArray)).length = k := by rw [List.length_map, hlm]
          rw [hlen] at hjn
          have HJN := Lib.hid hjn
          clear hjn hj3 hmm hjl hlm hown hag hall hlen
          go_wp2_with fail
          refine HJN.out.mono ?_
          rintro e w3 ⟨rfl, hb3⟩
          go_wp2_with fail
          go_ret
          exact ⟨rfl, hbw.trans (hb3.mono hsw)⟩
  · have hm : mtextL l = [] := by unfold mtextL; rw [if_pos h0]
    obtain ⟨E, hE⟩ : ∃ E, E = chkE l := ⟨_, rfl⟩
    rw [← hE] at hck h0
    have e1 : (E != 0) = true := by simpa using h0
    have HM := Lib.hid hm
    have HCK := Lib.hid hck
    clear hm hck hE h0
    go_enter Tryd.func19, Tryd.ntmps19
    go_wp2_with fail
    refine HCK.out.mono ?_
    rintro e w1 ⟨rfl, hb1⟩
    go_wp2_with fail
    go_ret
    exact ⟨by rw [HM.out]; rfl, hb1⟩
end Go.Proofs.YtlicnadbccjbjaaDoor
