/- What lysimeterref4.ReadStamps answers: the same as stamps.Unpack. Conditions: at most 10^5 bytes, each below 256. -/
import Derived.Test.YtnbamngancchmaaRefGet
import Derived.Test.YtnbamngancchmaaUnpack
namespace Go.Proofs.Ytnbamngancchmaa
open Go.RowKit PB PS

theorem strN_inj {l m : List Nat} (hl : ∀ x ∈ l, x < 256) (hm : ∀ x ∈ m, x < 256) (h : strN l = strN m) : l = m := by
  have h1 : (l.map fun (n : Nat) => UInt8.ofNat n) = m.map fun (n : Nat) => UInt8.ofNat n := by
    have := congrArg (fun s : ByteArray => s.data.toList) h
    simpa [strN, strOfNums, Function.comp_def] using this
  have h2 := congrArg (List.map UInt8.toNat) h1
  rw [List.map_map, List.map_map] at h2
  have e : ∀ k : List Nat, (∀ x ∈ k, x < 256) → k.map (UInt8.toNat ∘ fun (n : Nat) => UInt8.ofNat n) = k := by
    intro k hk
    conv => rhs; rw [← List.map_id k]
    refine List.map_congr_left fun x hx => ?_
    have := hk x hx
    simp [Function.comp]
    omega
  rwa [e l hl, e m hm] at h2
theorem strN_beq {l m : List Nat} (hl : ∀ x ∈ l, x < 256) (hm : ∀ x ∈ m, x < 256) (h : l ≠ m) : ((strN l).toList == (strN m).toList) = false := by
  rw [beq_eq_false_iff_ne, ByteArray.toList_eq, ByteArray.toList_eq]
  intro e
  refine h (strN_inj hl hm ?_)
  have e2 : (strN l).data = (strN m).data := Array.toList_inj.1 e
  cases h1 : strN l; cases h2 : strN m
  rw [h1, h2] at e2
  exact congrArg ByteArray.mk e2
theorem Rr.below {w w' : World} {g : Nat} {A : Option Addr} {N c : Nat} {bs : List Bool} {pos B : Nat} (h : Rr w g A N c bs pos) (hb : Below B w w') (hB : g < B) : Rr w' g A N c bs pos :=
  ⟨h.arr.below hb hB, h.rd.keep fun x hx => hb.block x (by omega), h.le⟩
theorem rget_bit {bs : List Bool} {p : Nat} : getAt bs p 1 = (bs[p]?).map b2n := by
  unfold getAt
  by_cases h : p < bs.length
  · rw [if_pos (by omega), List.getElem?_eq_getElem h]
    have : (bs.drop p).take 1 = [bs[p]] := by rw [List.drop_eq_getElem_cons h]; rfl
    rw [this]
    simp [natOf]
  · rw [if_neg (by omega), List.getElem?_eq_none (by omega)]; rfl
/-- one round's memory: what is above g may turn, g is the reader's. -/
structure Rs (w wr : World) (g : Nat) (A : Option Addr) (N c : Nat) (bs : List Bool) (pos k : Nat) (v : Value) (xs : List Value) : Prop where
  rr : Rr wr g A N c bs pos
  own : wr.ownsRow (g + 1) 3 1 v k xs
  bel : Below w.heap.size w wr
  ge : w.heap.size ≤ g
section
variable {w wr w' : World} {g N c pos k : Nat} {A : Option Addr} {bs : List Bool} {v : Value} {xs : List Value}
theorem Rs.get {n : Nat} {r : Ending} (h : Rs w wr g A N c bs pos k v xs) (hp : RgetPost wr g A N c bs pos n r w') : Rs w w' g A N c bs (rgetP bs pos n) k v xs := by
  obtain ⟨_, h1, h2⟩ := hp
  refine ⟨h1, own_kp h.own h2 ?_, h.bel.trans (h2.below h.bel.size ?_), h.ge⟩
  · intro x hx e
    have := (h.own.lt x hx).1
    omega
  · intro x hx e
    have := h.ge
    omega
theorem Rs.alloc (h : Rs w wr g A N c bs pos k v xs) (o : Obj) : Rs w (wr.alloc o) g A N c bs pos k v xs := by
  have hg := h.rr.arr.lt
  refine ⟨h.rr.below ((Below.refl (g + 1) wr).alloc (by omega) o) (by omega), h.own.alloc o, h.bel.alloc h.bel.size o, h.ge⟩
theorem Rs.grow {v' : Value} {k' : Nat} {ys : List Value} (h : Rs w wr g A N c bs pos k v xs) (hg : wr.grownBy w' v.ownBlock) (ho : w'.ownsRow (g + 1) 3 1 v' k' ys) : Rs w w' g A N c bs pos k' v' ys := by
  have hgl := h.rr.arr.lt
  have hB : Below (g + 1) wr w' := (Below.refl (g + 1) wr).grown hg (by omega) (fun x hx => (h.own.lt x hx).1)
  exact ⟨h.rr.below hB (by omega), ho, h.bel.trans (hB.mono (by have := h.ge; omega)), h.ge⟩
end
theorem ones_zero {B : List Bool} {pos t p : Nat} (h : onesF B 4 pos = (onesF B (4 - t) p).map fun x => (x.1 + t, x.2)) (ht : t < 4) (hb : B[p]? = some false) : onesF B 4 pos = some (t, p + 1) := by
  obtain ⟨f, hf⟩ : ∃ f, 4 - t = f + 1 := ⟨3 - t, by omega⟩
  rw [h, hf]
  simp [onesF, hb]
theorem ones_four {B : List Bool} {pos p : Nat} (h : onesF B 4 pos = (onesF B (4 - 4) p).map fun x => (x.1 + 4, x.2)) : onesF B 4 pos = some (4, p) := by
  rw [h]; rfl
theorem ones_none {B : List Bool} {pos t p : Nat} (h : onesF B 4 pos = (onesF B (4 - t) p).map fun x => (x.1 + t, x.2)) (ht : t < 4) (hb : B[p]? = none) : onesF B 4 pos = none := by
  obtain ⟨f, hf⟩ : ∃ f, 4 - t = f + 1 := ⟨3 - t, by omega⟩
  rw [h, hf]
  simp [onesF, hb]
theorem ones_one {B : List Bool} {pos t p : Nat} (h : onesF B 4 pos = (onesF B (4 - t) p).map fun x => (x.1 + t, x.2)) (ht : t < 4) (hb : B[p]? = some true) : onesF B 4 pos = (onesF B (4 - (t + 1)) (p + 1)).map fun x => (x.1 + (t + 1), x.2) := by
  obtain ⟨f, hf⟩ : ∃ f, 4 - t = f + 1 := ⟨3 - t, by omega⟩
  rw [h, hf, show 4 - (t + 1) = f by omega]
  simp only [onesF, hb, Option.map_map]
  congr 1
  funext x
  simp [Function.comp]
  omega
theorem wid_row (w : World) {t : Nat} (ht : t ≤ 4) : (w.alloc (.cells #[.int .i64 0, .int .i64 7, .int .i64 9, .int .i64 12, .int .i64 64] 3)).cell? ⟨w.heap.size, t, none⟩ = some (.int .i64 ((wid t : Nat) : Int)) := by
  refine (Arr.new w 3 _).at_ ?_
  obtain rfl | rfl | rfl | rfl | rfl : t = 0 ∨ t = 1 ∨ t = 2 ∨ t = 3 ∨ t = 4 := by omega
  all_goals rfl
theorem low_row (w : World) {t : Nat} (ht : t ≤ 4) : (w.alloc (.cells #[.int .i64 0, .int .i64 63, .int .i64 255, .int .i64 2047, .int .i64 0] 3)).cell? ⟨w.heap.size, t, none⟩ = some (.int .i64 (-low t)) := by
  refine (Arr.new w 3 _).at_ ?_
  obtain rfl | rfl | rfl | rfl | rfl : t = 0 ∨ t = 1 ∨ t = 2 ∨ t = 3 ∨ t = 4 := by omega
  all_goals rfl
theorem wrap_off (d V lo lw : Int) (h : lo = -lw) : wrap64 (d + wrap64 (V + lw)) = wrap64 (wrap64 (d + V) - lo) := by
  subst h
  have e1 := wrap64_idem (V + lw) d
  have e2 := wrap64_idem (d + V) lw
  rw [show d + wrap64 (V + lw) = wrap64 (V + lw) + d by omega, e1, show wrap64 (d + V) - -lw = wrap64 (d + V) + lw by omega, e2]
  congr 1; omega

set_option maxRecDepth 100000 in
set_option maxHeartbeats 4000000 in
theorem rread_any (A : Option Addr) (n c B : Nat) (m : Int) (l : List Nat) (w : World) (hr : Rd w B A n (l.map bv)) (hB : B ≤ w.heap.size) (hn : n ≤ 100000) (hb : ∀ x ∈ l, x < 256) :
    Calls Try.prog 21 #[.slice A n c, .int .i64 m] w (UnpackPost w l m) := by
  obtain ⟨i0, hi, hz0, hz1, hz2⟩ := info_parts Try.info3
  by_cases h120 : 120 < m
  · have HE : Hid (unpackE l m = 2 ∧ unpackL l m = []) := ⟨by unfold unpackE; rw [if_pos h120], by unfold unpackL; rw [if_pos h120]⟩
    go_enter Try.func21, Try.ntmps21
    go_wp2_with fail
    go_ret2
    exact ⟨_, by rw [HE.out.1]; rfl, by rw [HE.out.2]; exact World.ownsRow_nil _ _ _ _, Below.refl _ _⟩
  · by_cases hneg : m < 0
    · have HE : Hid (unpackE l m = 1 ∧ unpackL l m = []) := ⟨by unfold unpackE; rw [if_neg h120, if_pos hneg], by unfold unpackL; rw [if_neg h120, if_pos hneg]⟩
      go_enter Try.func21, Try.ntmps21
      go_wp2_with fail
      go_ret2
      exact ⟨_, by rw [HE.out.1]; rfl, by rw [HE.out.2]; exact World.ownsRow_nil _ _ _ _, Below.refl _ _⟩
    · obtain ⟨M, rfl⟩ := Int.eq_ofNat_of_zero_le (show 0 ≤ m by omega)
      have HM : Hid (unpackE l M = (if (unpack l M).isSome then 0 else 5) ∧ unpackL l M = (unpack l M).getD []) := by
        refine ⟨?_, ?_⟩
        · unfold unpackE; rw [if_neg h120, if_neg hneg, Int.toNat_natCast]
        · unfold unpackL; rw [if_neg h120, if_neg hneg, Int.toNat_natCast]
      have HBY : Hid (∀ x ∈ l, x < 256) := hb
      have HLL := Lib.hid hr.blen
      have hof := rof_any A n c B l w hr hB hn hb
      have hM : M ≤ 120 := by omega
      have HRD := Lib.hid hr
      clear hb h120 hneg hr
      go_enter Try.func21, Try.ntmps21
      go_wp2_with fail
      refine hof.mono ?_
      rintro e w1 ⟨v1, rfl, hown1, hb1⟩
      obtain ⟨A1, c1, rfl, hrd1, _⟩ := Rd.of_own hown1
      obtain ⟨g, hg⟩ : ∃ g, g = w1.heap.size := ⟨_, rfl⟩
      have hs0 : Rs w (w1.alloc (.cells #[.slice A1 (8 * n) c1, .int .i64 0] 84)) g A1 (8 * n) c1 (bitsOf l) 0 0 (.slice none 0 0) (ints []) := by
        subst hg
        exact ⟨⟨Arr.new _ _ _, hrd1.keep fun x hx => Below.heap_alloc w1 _ x hx, Nat.zero_le _⟩, World.ownsRow_nil _ _ _ _, hb1.alloc hb1.size _, hb1.size⟩
      obtain ⟨N, hN⟩ : ∃ N, N = 8 * n := ⟨_, rfl⟩
      rw [← hN] at hs0 ⊢
      have hNb : N ≤ 1000000 := by omega
      have HS0 := Lib.hid hs0
      clear hs0 hrd1 hown1 hN hof
      go_wp2_with fail
      rw [← hg]
      clear hg
      go_loopw [7, 8, 9] (fun v d i wr => ∃ (k pos : Nat) (L : List Int) (d' : Int), k ≤ M ∧ i = .int .i64 k ∧ d = .int .i64 d' ∧ Hid (runS (bitsOf l) k = some (pos, L, d')) ∧ Rs w wr g A1 N c1 (bitsOf l) pos k v (ints L)) (fun _ _ i _ => M - (intOf i).toNat)
      case atStart => exact ⟨0, 0, [], 0, Nat.zero_le _, rfl, rfl, rfl, HS0.out⟩
      case round =>
        obtain ⟨k, pos, L, d, hk, rfl, rfl, HRUN, hs⟩ := hrel
        by_cases hlt : k < M
        · rcases Nat.eq_zero_or_pos k with h0 | h0
          · subst h0
            have hq := rget_any g N c1 pos 64 A1 (bitsOf l) wr hs.rr hNb (by omega)
            go_wp2_with fail
            refine hq.mono ?_
            rintro e w2 hp
            have hs2 := hs.get hp
            obtain rfl := hp.1
            cases hget : getAt (bitsOf l) pos 64 with
            | none =>
              have HF : Hid (unpack l M = none) := by
                show _ = _
                unfold unpack; rw [runS_none (runS_first_none HRUN.out hget) (show 0 + 1 ≤ M by omega)]; rfl
              unfold rgetV rgetE
              rw [hget]
              have HB := Lib.hid hs2.bel
              clear hp hs2 hs hq hget
              simp only [Option.isSome_none, Bool.false_eq_true, if_false]
              go_wp2_with fail
              go_ret2
              exact unpack_no HM.out HF.out HB.out
            | some v =>
              have HR := Lib.hid (runS_first HRUN.out hget)
              unfold rgetP at hs2
              rw [hget] at hs2
              simp only [Option.isSome_some, if_true] at hs2
              unfold rgetV rgetE
              rw [hget]
              clear hp hs hq hget
              simp only [Option.isSome_some, if_true]
              have hgl := hs2.rr.arr.lt
              have hLl : (ints L).length = 0 := by rw [hs2.own.1]
              go_wp2_with (at_builtin; refine wpList_append_lies _ rfl (.tmp 41) (.tmp 43) 23 rfl (g + 1) 3 i0 (.int .i64 0) 1 8 Try.underlying23 hi hz0 hz1 hz2 rfl (by decide) u7 0 (ints L) rfl (hs2.own.alloc _) ⟨w2.heap.size, 0, none⟩ 1 1 [.int .i64 (wrap64 (v : Int))] rfl rfl (cell_one_new w2 _ 3) (by simp [Value.oneCell']) (by omega) (by unfold maxLen; omega) (by omega) (by simp; omega) (w2.heap.size + 1) (by simp) ?_; intro r cap w3 hown3 hg3 hat3 hlt3)
              have HS3 := Lib.hid ((hs2.alloc _).grow hg3 hown3)
              clear hown3 hg3 hat3 hlt3 hs2
              go_wp2_with fail
              go_roundw
              case rel => exact ⟨1, pos + 64, L ++ [wrap64 (v : Int)], d, by omega, by go_num, rfl, HR, by simpa [ints] using HS3.out⟩
              case measure => simp [intOf]; omega
          · have hk1 : 0 ≤ (k : Int) - 1 := by omega
            have hk2 : 1 ≤ (k : Int) := by omega
            have HK := Lib.hid h0
            go_wp2_with fail
            go_loopw [12] (fun t wr => ∃ (tt p : Nat), tt ≤ 4 ∧ t = .int .i64 tt ∧ Hid (onesF (bitsOf l) 4 pos = (onesF (bitsOf l) (4 - tt) p).map fun x => (x.1 + tt, x.2)) ∧ Rs w wr g A1 N c1 (bitsOf l) p k u7 (ints L)) (fun t _ => 4 - (intOf t).toNat)
            case atStart =>
              refine ⟨0, pos, by omega, rfl, ?_, hs⟩
              show onesF (bitsOf l) 4 pos = (onesF (bitsOf l) 4 pos).map fun x => (x.1 + 0, x.2)
              cases onesF (bitsOf l) 4 pos <;> rfl
            case round =>
              clear hs
              obtain ⟨tt, p, h4, rfl, HON, hs⟩ := hrel
              have hcase : (tt < 4 ∧ (bitsOf l)[p]? = none) ∨ (tt < 4 ∧ (bitsOf l)[p]? = some true) ∨ (tt < 4 ∧ (bitsOf l)[p]? = some false) ∨ 4 ≤ tt := by
                rcases Nat.lt_or_ge tt 4 with h | h
                · cases hb : (bitsOf l)[p]? with
                  | none => exact Or.inl ⟨h, rfl⟩
                  | some b => cases b with
                    | true => exact Or.inr (Or.inl ⟨h, rfl⟩)
                    | false => exact Or.inr (Or.inr (Or.inl ⟨h, rfl⟩))
                · exact Or.inr (Or.inr (Or.inr h))
              have hq := rget_any g N c1 p 1 A1 (bitsOf l) wr hs.rr hNb (by omega)
              rcases hcase with ⟨ht, hbit⟩ | ⟨ht, hbit⟩ | ⟨ht, hbit⟩ | ht
              · have hget : getAt (bitsOf l) p 1 = none := by rw [rget_bit, hbit]; rfl
                have HF : Hid (unpack l M = none) := by
                  show _ = _
                  have : getDiff (bitsOf l) pos = none := by unfold getDiff; rw [ones_none HON.out ht hbit]; rfl
                  unfold unpack; rw [runS_none (runS_next_none HK.out HRUN.out this) (show k + 1 ≤ M by omega)]; rfl
                clear hbit
                go_wp2_with fail
                refine hq.mono ?_
                rintro e w2 hp
                have HB := Lib.hid (hs.get hp).bel
                obtain rfl := hp.1
                unfold rgetV rgetE
                rw [hget]
                clear hp hs hq hget
                simp only [Option.isSome_none, Bool.false_eq_true, if_false]
                go_wp2_with fail
                go_ret2
                exact unpack_no HM.out HF.out HB.out
              · have hget : getAt (bitsOf l) p 1 = some 1 := by rw [rget_bit, hbit]; rfl
                have HN := Lib.hid (ones_one HON.out ht hbit)
                clear hbit
                go_wp2_with fail
                refine hq.mono ?_
                rintro e w2 hp
                have hs2 := hs.get hp
                unfold rgetP at hs2
                rw [hget] at hs2
                simp only [Option.isSome_some, if_true] at hs2
                obtain rfl := hp.1
                unfold rgetV rgetE
                rw [hget]
                have HS2 := Lib.hid hs2
                clear hp hs hq hget hs2
                simp only [Option.isSome_some, if_true]
                have hw1 : wrap64 ((1 : Nat) : Int) = 1 := wrap64_in (by omega) (by omega)
                rw [hw1]
                go_wp2_with fail
                go_roundw
                case rel => exact ⟨tt + 1, p + 1, by omega, by go_num, HN, HS2.out⟩
                case measure => simp [intOf]; omega
              case' inr.inr.inl =>
                have hget : getAt (bitsOf l) p 1 = some 0 := by rw [rget_bit, hbit]; rfl
                obtain ⟨q, hq1⟩ : ∃ q, q = p + 1 := ⟨_, rfl⟩
                have HO := Lib.hid (ones_zero HON.out ht hbit)
                rw [← hq1] at HO
                clear hbit
                go_wp2_with fail
                refine hq.mono ?_
                rintro e w2 hp
                have hs3 := hs.get hp
                unfold rgetP at hs3
                rw [hget] at hs3
                simp only [Option.isSome_some, if_true] at hs3
                rw [← hq1] at hs3
                obtain rfl := hp.1
                unfold rgetV rgetE
                rw [hget]
                clear hp hs hq hget hq1
                simp only [Option.isSome_some, if_true]
                have hw1 : wrap64 ((0 : Nat) : Int) = 0 := wrap64_in (by omega) (by omega)
                rw [hw1]
                clear hw1
              case' inr.inr.inr =>
                obtain ⟨q, hq1⟩ : ∃ q, q = p := ⟨_, rfl⟩
                have HO : Hid (onesF (bitsOf l) 4 pos = some (tt, q)) := by
                  have h := HON.out
                  rw [show tt = 4 by omega] at h ⊢
                  rw [hq1]; exact ones_four h
                obtain ⟨w2, hw2⟩ : ∃ w2, w2 = wr := ⟨_, rfl⟩
                have hs3 := hs
                rw [← hq1, ← hw2] at hs3
                rw [← hw2]
                clear hq hs hq1 hw2
              all_goals
                have hgl := hs3.rr.arr.lt
                have hcw := wid_row w2 h4
                have hs4 := hs3.alloc (.cells #[.int .i64 0, .int .i64 7, .int .i64 9, .int .i64 12, .int .i64 64] 3)
                have hq2 := rget_any g N c1 q (wid tt) A1 (bitsOf l) _ hs4.rr hNb (wid_le tt)
                obtain ⟨W, hW⟩ : ∃ W, W = wid tt := ⟨_, rfl⟩
                rw [← hW] at hcw hq2
                have HWD := Lib.hid hW
                have hWb : W ≤ 64 := by rw [hW]; exact wid_le tt
                clear hs3 hW
                go_wp2_with fail
                refine hq2.mono ?_
                rintro e w3 hp2
                have hs5 := hs4.get hp2
                obtain rfl := hp2.1
                cases hget2 : getAt (bitsOf l) q W with
                | none =>
                  have HF : Hid (unpack l M = none) := by
                    show _ = _
                    have : getDiff (bitsOf l) pos = none := by simp only [getDiff, HO.out, Option.bind_some, ← HWD.out, hget2, Option.map_none]
                    unfold unpack; rw [runS_none (runS_next_none HK.out HRUN.out this) (show k + 1 ≤ M by omega)]; rfl
                  have HB := Lib.hid hs5.bel
                  unfold rgetV rgetE
                  rw [hget2]
                  clear hp2 hs4 hs5 hq2 hget2 hcw
                  simp only [Option.isSome_none, Bool.false_eq_true, if_false]
                  go_wp2_with fail
                  go_ret2
                  exact unpack_no HM.out HF.out HB.out
                | some v =>
                  have HDF : Hid (getDiff (bitsOf l) pos = some (wrap64 (wrap64 (v : Int) + low tt), q + W)) := by
                    show _ = _
                    simp only [getDiff, HO.out, Option.bind_some, ← HWD.out, hget2, Option.map_some]
                  unfold rgetP at hs5
                  rw [hget2] at hs5
                  simp only [Option.isSome_some, if_true] at hs5
                  unfold rgetV rgetE
                  rw [hget2]
                  have HR := Lib.hid (runS_next HK.out HRUN.out HDF.out)
                  clear hp2 hs4 hq2 hget2 hcw
                  simp only [Option.isSome_some, if_true]
                  have hcl := low_row w3 h4
                  obtain ⟨lo, hlo⟩ : ∃ lo, lo = -low tt := ⟨_, rfl⟩
                  rw [← hlo] at hcl
                  obtain ⟨V, hV⟩ : ∃ V, V = wrap64 (v : Int) := ⟨_, rfl⟩
                  simp only [← hV] at HR ⊢
                  have HD := Lib.hid (wrap_off d V lo (low tt) hlo)
                  rw [HD.out] at HR
                  obtain ⟨D, hD⟩ : ∃ D, D = wrap64 (wrap64 (d + V) - lo) := ⟨_, rfl⟩
                  rw [← hD] at HR
                  have HDD := Lib.hid hD
                  have HLO := Lib.hid hlo
                  clear hlo hV hD HD
                  have hs6 := hs5.alloc (.cells #[.int .i64 0, .int .i64 63, .int .i64 255, .int .i64 2047, .int .i64 0] 3)
                  clear hs5
                  have hLl : L.length = k := by have := hs6.own.1; simpa [ints] using this
                  obtain ⟨r, cap, cur, rfl, hrl⟩ := own_form hs6.own h0
                  have hcx := own_cell hs6.own (i := k - 1) (u := .int .i64 (L.getD (k - 1) 0)) (by simp [ints, List.getD, show k - 1 < L.length by omega])
                  obtain ⟨x, hx⟩ : ∃ x, x = L.getD (k - 1) 0 := ⟨_, rfl⟩
                  rw [← hx] at hcx HR
                  have HX := Lib.hid hx
                  have hg6 := hs6.rr.arr.lt
                  have HLl : Hid ((ints L).length = k) := by show _ = _; simpa [ints] using hLl
                  clear hx hrl hLl
                  have hnew := cell_one_new (w3.alloc (.cells #[.int .i64 0, .int .i64 63, .int .i64 255, .int .i64 2047, .int .i64 0] 3)) (.int .i64 (wrap64 (x + wrap64 (wrap64 (d + V) - lo)))) 3
                  rw [show (w3.alloc (.cells #[.int .i64 0, .int .i64 63, .int .i64 255, .int .i64 2047, .int .i64 0] 3)).heap.size = w3.heap.size + 1 by simp] at hnew
                  go_wp2_with (at_builtin; refine wpList_append_lies _ rfl (.tmp 77) (.tmp 85) 23 rfl (g + 1) 3 i0 (.int .i64 0) 1 8 Try.underlying23 hi hz0 hz1 hz2 rfl (by decide) _ k (ints L) rfl (hs6.own.alloc _) ⟨w3.heap.size + 1, 0, none⟩ 1 1 [.int .i64 (wrap64 (x + wrap64 (wrap64 (d + V) - lo)))] rfl rfl hnew (by simp [Value.oneCell']) (by omega) (by unfold maxLen; omega) (by omega) (by have h6 := hg6; simp at h6 ⊢; omega) (w3.heap.size + 1 + 1) (by simp) ?_; intro r2 cap2 w5 hown5 hg5 hat5 hlt5)
                  have HS7 := Lib.hid ((hs6.alloc _).grow hg5 hown5)
                  clear hown5 hg5 hat5 hlt5 hs6 hnew hcl hcx hg6
                  go_wp2_with fail
                  go_roundw
                  case rel => exact ⟨k + 1, q + W, L ++ [wrap64 (x + D)], D, by omega, by go_num, by rw [HDD.out], HR, by simpa [ints, HDD.out] using HS7.out⟩
                  case measure => simp [intOf]; omega
        · obtain rfl : k = M := by omega
          obtain ⟨A2, c2, rfl, hrd2, _⟩ := Rd.of_own hs.own
          have hLl : L.length = k := by have := hs.own.1; simpa [ints] using this
          have hq := rstamps_any A2 k c2 wr.heap.size L wr hrd2 (Nat.le_refl _) (by omega)
          have HS := Lib.hid hs
          have HL := Lib.hid hLl
          have HU : Hid (unpack l k = if packE L = 0 ∧ packB L = l then some L else none) := by
            show _ = _
            unfold unpack; rw [HRUN.out]; rfl
          clear hs hrd2 hLl
          go_wp2_with fail
          refine hq.mono ?_
          rintro e w2 ⟨v2, rfl, hown2, hb2⟩
          have HB : Hid (Below w.heap.size w w2) := HS.out.bel.trans (hb2.mono HS.out.bel.size)
          have HO : Hid (w2.ownsRow w.heap.size 3 1 (.slice A2 k c2) k (ints L)) := own_base (own_kp HS.out.own (Kp.none_of_below (S := fun _ => False) hb2) (fun _ _ h => h)) (by have := HS.out.ge; omega)
          have cv2 := conv_own hown2
          have cv1 := conv_rd (c := c) (HRD.out.below (HB.out.mono hB))
          have HPB : Hid (∀ x ∈ packB L, x < 256) := by
            show ∀ x ∈ packB L, x < 256
            unfold packB
            split
            · exact bytesOf_lt _
            · simp
          clear hown2 hb2 hq
          by_cases hE : packE L = 0
          · rw [hE]
            have HE := Lib.hid hE
            by_cases hP : packB L = l
            · have hne : ((strN (packB L)).toList == (strN l).toList) = true := by rw [hP]; exact beq_self_eq_true _
              have HF : Hid (unpack l k = some L) := by
                show _ = _
                rw [HU.out, if_pos ⟨HE.out, hP⟩]
              clear hE hP
              go_wp2_with fail
              go_ret2
              have hok := unpack_ok HM.out HF.out HL.out HB.out HO.out
              simpa using hok
            · have hne : ((strN (packB L)).toList == (strN l).toList) = false := strN_beq HPB.out HBY.out hP
              have HF : Hid (unpack l k = none) := by
                show _ = _
                rw [HU.out, if_neg (fun h => hP h.2)]
              clear hE hP
              go_wp2_with fail
              go_ret2
              exact unpack_no HM.out HF.out HB.out
          · have hne : (packE L != 0) = true := by rw [bne_iff_ne]; exact hE
            have HF : Hid (unpack l k = none) := by
              show _ = _
              rw [HU.out, if_neg (fun h => hE h.1)]
            clear hE
            go_wp2_with fail
            go_ret2
            exact unpack_no HM.out HF.out HB.out
end Go.Proofs.Ytnbamngancchmaa
