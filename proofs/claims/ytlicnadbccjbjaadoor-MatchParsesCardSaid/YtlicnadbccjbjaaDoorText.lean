/- What labels.Text answers: the text of all labels, or none. No conditions. -/
import Derived.Test.YtlicnadbccjbjaaDoorQuote
namespace Go.Proofs.YtlicnadbccjbjaaDoor
open Go.RowKit LB

/-- Who has been let in may be a label. -/
theorem foldL_ok {l m : List Lab} (h : foldL l = some m) : ∀ x ∈ m, labOK x = true := by
  have : ∀ k, k ≤ l.length → ∀ m, foldL (l.take k) = some m → ∀ x ∈ m, labOK x = true := by
    intro k
    induction k with
    | zero => intro _ m h; simp [foldL] at h; subst h; simp
    | succ k ih =>
      intro hk m h
      rw [foldL_take (by omega)] at h
      cases h1 : foldL (l.take k) with
      | none => rw [h1] at h; cases h
      | some a =>
        have ha := ih (by omega) a h1
        rw [h1] at h
        unfold stepL at h
        rw [Option.bind_some] at h
        split at h
        · rename_i hok
          intro x hx
          rcases insL_mem h hx with rfl | hx
          · exact hok
          · exact ha x hx
        · cases h
  exact this l.length (Nat.le_refl _) m (by rw [List.take_length]; exact h)
theorem lab_size {x : Lab} (h : labOK x = true) : 0 < x.1.size ∧ x.1.size ≤ 64 ∧ 0 < x.2.size ∧ x.2.size ≤ 64 := by
  unfold labOK nameB at h
  simp only [Bool.and_eq_true, decide_eq_true_eq] at h
  omega
theorem mkL_small {l m : List Lab} (h : mkL l = some m) : m.length = l.length ∧ m.length ≤ 16 ∧ 0 < m.length ∧ (∀ x ∈ m, x.1.size ≤ 64 ∧ x.2.size ≤ 64) ∧ Up m ∧ ∀ x ∈ m, labOK x = true := by
  unfold mkL at h
  split at h
  · cases h
  · have h1 := foldL_up h
    refine ⟨h1.2, by omega, by omega, fun x hx => ?_, h1.1, foldL_ok h⟩
    have := lab_size (foldL_ok h x hx)
    omega
theorem quoteL_len (s : ByteArray) : (quoteL s).length ≤ 2 + 3 * s.size := by
  have := qTo_len s s.size (Nat.le_refl _)
  rw [← qTo_all, List.length_append]
  simp; omega
/-- One item. -/
def itemL (k : Nat) (x : Lab) : List UInt8 := (if k = 0 then 123 else 44) :: (x.1.data.toList ++ 61 :: quoteL x.2)
theorem itemsL_snoc (l : List Lab) (x : Lab) : ∀ c, itemsL c (l ++ [x]) = itemsL c l ++ ((if l.length = 0 then c else 44) :: (x.1.data.toList ++ 61 :: quoteL x.2)) := by
  induction l with
  | nil => intro c; simp [itemsL]
  | cons a l ih =>
    intro c
    rw [List.cons_append, itemsL, ih, itemsL]
    have : (if l.length = 0 then (44 : UInt8) else 44) = 44 := by split <;> rfl
    simp [this]
def tTo (m : List Lab) (k : Nat) : List UInt8 := itemsL 123 (m.take k)
theorem tTo_succ {m : List Lab} {k : Nat} {x : Lab} (h : m[k]? = some x) : tTo m (k + 1) = tTo m k ++ itemL k x := by
  obtain ⟨hk, he⟩ := List.getElem?_eq_some_iff.1 h
  unfold tTo itemL
  rw [List.take_succ_eq_append_getElem hk, he, itemsL_snoc, List.length_take, Nat.min_eq_left (by omega)]
theorem itemL_len {k : Nat} {x : Lab} (h : x.1.size ≤ 64 ∧ x.2.size ≤ 64) : (itemL k x).length ≤ 300 := by
  have := quoteL_len x.2
  unfold itemL
  simp
  omega
theorem tTo_len {m : List Lab} (h : ∀ x ∈ m, x.1.size ≤ 64 ∧ x.2.size ≤ 64) (k : Nat) (hk : k ≤ m.length) : (tTo m k).length ≤ 300 * k := by
  induction k with
  | zero => simp [tTo, itemsL]
  | succ k ih =>
    have hx : m[k]? = some m[k] := List.getElem?_eq_getElem (by omega)
    have h1 := itemL_len (k := k) (h m[k] (List.getElem_mem _))
    rw [tTo_succ hx, List.length_append]
    have := ih (by omega)
    omega
theorem textM_to (m : List Lab) : tTo m m.length ++ [125] = textM m := by unfold tTo textM; rw [List.take_length]

theorem bld_kp {T e : TypeId} {B b : Nat} {p : Value} {bs : List Value} {w w' : World} (h : Lib.BuilderAtF T e B b p bs w) (k : Kp (fun _ => False) w w') : Lib.BuilderAtF T e B b p bs w' := by
  obtain ⟨hB, v, hb, hown, hne⟩ := h
  refine ⟨hB, v, (k.block b (Array.getElem?_eq_some_iff.1 hb).1 (fun h => h)).trans hb, ⟨hown.1, ?_⟩, hne⟩
  rcases hown.2 with hn | ⟨g', cap, cur, fz, rfl, hb', hgg, rest⟩
  · exact .inl hn
  · exact .inr ⟨g', cap, cur, fz, rfl, hb', (k.block g' (Array.getElem?_eq_some_iff.1 hgg).1 (fun h => h)).trans hgg, rest⟩
theorem isb_kp {T e : TypeId} {B b : Nat} {bs : List Value} {w w' : World} (h : Lib.IsBuilderF T e B b bs w) (k : Kp (fun _ => False) w w') : Lib.IsBuilderF T e B b bs w' :=
  h.imp (fun h => bld_kp h k) (fun h => bld_kp h k)
theorem isb_lt {T e : TypeId} {B b : Nat} {bs : List Value} {w : World} (h : Lib.IsBuilderF T e B b bs w) : b < w.heap.size := by
  rcases h with ⟨_, v, hb, _⟩ | ⟨_, v, hb, _⟩ <;> exact (Array.getElem?_eq_some_iff.1 hb).1
theorem Arr.others {w w' : World} {g b : Nat} {t e : TypeId} {cs : Array Value} (h : Arr w g t cs) (k : Lib.OthersKept e (some b) w w') (hg : g ≠ b) (ht : t ≠ e) : Arr w' g t cs := by
  refine k g _ h (by simpa using hg) ?_
  intro c fz h
  injection h with _ h2
  exact ht h2
theorem strCells_eq (s : ByteArray) : Lib.strCells s = bc s.data.toList := rfl

set_option maxRecDepth 100000 in
set_option maxHeartbeats 2000000 in
theorem text_any (A : Option Addr) (n c B : Nat) (l : List Lab) (w : World) (hr : Lv w B A n l) (hB : B ≤ w.heap.size) :
    Calls Tryd.prog 10 #[.slice A n c] w fun e w' => e = .returned (.string ⟨(textL l).toArray⟩) ∧ Below w.heap.size w w' := by
  have hmk := make_any A n c B l w hr hB
  cases hm : mkL l with
  | none =>
    have ht : textL l = [] := by unfold textL; rw [hm]
    have hE : mkE l = 20 := by unfold mkE; rw [if_pos hm]
    rw [ht]
    go_enter Tryd.func10, Tryd.ntmps10
    go_wp2_with (go_at_call 25; refine hmk.mono ?_; rintro e w2 ⟨v, rfl, hown, hb⟩; rw [hE])
    go_ret
    exact ⟨rfl, hb⟩
  | some m =>
    obtain ⟨h1, h2, h3, h4, _, _⟩ := mkL_small hm
    have ht : textL l = textM m := by unfold textL; rw [hm]
    have hE : mkE l = 0 := by unfold mkE; rw [if_neg (by rw [hm]; simp)]
    have hR : mkR l = m := by unfold mkR; rw [hm]; rfl
    rw [ht]
    have HT := Lib.hid (And.intro hE hR)
    have i0 : ∀ W, (Instr.index 55 (.agg #[.string ⟨#[123]⟩, .string ⟨#[44]⟩]) (.int .i64 0)).run Tryd.prog W = .ok (.string ⟨#[123]⟩) W := fun _ => by kernel_rfl
    have i1 : ∀ W, (Instr.index 55 (.agg #[.string ⟨#[123]⟩, .string ⟨#[44]⟩]) (.int .i64 1)).run Tryd.prog W = .ok (.string ⟨#[44]⟩) W := fun _ => by kernel_rfl
    clear hE hR hm ht h1
    go_enter Tryd.func10, Tryd.ntmps10
    go_wp2_with (go_at_call 25; refine hmk.mono ?_; rintro e w1 ⟨v, rfl, hown, hb⟩; rw [HT.out.1]; rw [HT.out.2] at hown)
    obtain ⟨A1, c1, rfl, hlv, hc1, hc2⟩ := Lv.of_own hown
    obtain ⟨N, hN⟩ : ∃ N, N = m.length := ⟨_, rfl⟩
    rw [← hN] at hlv hc1 h2 h3 ⊢
    have HN := Lib.hid hN
    have hB0 : Lib.IsBuilderF 50 5 w1.heap.size w1.heap.size (bc (tTo m 0)) (w1.alloc (.cells #[.pointer none, .slice none 0 0] 50)) := Lib.IsBuilderF.of (Lib.fresh_isBuilder 50 5 w1)
    clear hN hown hmk
    go_wp2_with fail
    go_simp
    go_wp2_with fail
    go_loopw [16] (fun i wr => ∃ k : Nat, k ≤ N ∧ i = .int .i64 k ∧ Lib.IsBuilderF 50 5 w1.heap.size w1.heap.size (bc (tTo m k)) wr ∧ Below w1.heap.size w1 wr) (fun i _ => N - (intOf i).toNat)
    case atStart => exact ⟨0, Nat.zero_le _, rfl, hB0, (Below.refl _ w1).alloc (Nat.le_refl _) _⟩
    case round =>
      obtain ⟨k, hk, rfl, hbd, hbe⟩ := hrel
      clear hB0
      have hsz := hbe.size
      by_cases hlt : k < N
      · obtain ⟨x, hx⟩ : ∃ x, m[k]? = some x := ⟨_, List.getElem?_eq_getElem (by rw [← HN.out]; exact hlt)⟩
        obtain ⟨b, off, rfl, hbB, hcc⟩ := (hlv.below hbe).at2 hlt
        obtain ⟨c0, c1⟩ := hcc k x hx
        have hx64 := h4 x (List.mem_of_getElem? hx)
        have hts := tTo_succ hx
        have htl := tTo_len h4 k (by rw [← HN.out]; exact hk)
        obtain ⟨xn, xv⟩ := x
        obtain ⟨T, hT⟩ : ∃ T, T = tTo m k := ⟨_, rfl⟩
        rw [← hT] at hbd hts htl
        have HTS := Lib.hid hts
        clear hts hcc hx hT
        obtain ⟨S, hzz, hS1, hSd⟩ : ∃ S : ByteArray, (∀ W, (Instr.index 55 (.agg #[.string ⟨#[123]⟩, .string ⟨#[44]⟩]) (.int .i64 (min (k : Int) 1))).run Tryd.prog W = .ok (.string S) W) ∧ S.size = 1 ∧ S.data.toList = [if k = 0 then 123 else 44] := by
          by_cases hk0 : k = 0
          · refine ⟨⟨#[123]⟩, ?_, rfl, by rw [if_pos hk0]⟩
            rw [show min (k : Int) 1 = 0 by omega]; exact i0
          · refine ⟨⟨#[44]⟩, ?_, rfl, by rw [if_neg hk0]⟩
            rw [show min (k : Int) 1 = 1 by omega]; exact i1
        have HSD := Lib.hid hSd
        have HZ := Lib.hid hzz
        have hkp := (Kp.refl (fun _ => False) wr).alloc (.cells #[.string xn, .string xv] 37)
        have hq1 := isb_kp hbd hkp
        have hq2 := Tryd.Builder_WriteString_k w1.heap.size w1.heap.size (bc T) S (wr.alloc (.cells #[.string xn, .string xv] 37)) hq1 (by rw [bc_len, hS1]; omega) (by simp; omega)
        rw [strCells_eq, hSd] at hq2
        have HQ2 := Lib.hid hq2
        have hlt1 := isb_lt hbd
        clear hq2 i0 i1 hSd hkp hq1 hzz hS1
        go_wp2_with fail
        rw [HZ.out]
        simp only [Result.andThen]
        rw [Oper.upon_value]
        go_wp2_with (go_at_call 26; refine HQ2.out.mono ?_; rintro e w3 ⟨rfl, hb3, hbe3, hoth3⟩)
        have ax := (Arr.new wr 37 #[.string xn, .string xv]).others hoth3 (by omega) (by decide)
        have x0 := ax.at_ (i := 0) (v := .string xn) rfl
        have x1 := ax.at_ (i := 1) (v := .string xv) rfl
        have hb4 : Below w1.heap.size w1 w3 := (hbe.alloc hsz _).trans hbe3
        have hs3 := hb4.size
        have hw3 := ax.lt
        have HB3 := Lib.hid hb3
        have hq5 := quote_any xv w3.drew (by omega)
        obtain ⟨Q, hQ⟩ : ∃ Q, Q = quoteL xv := ⟨_, rfl⟩
        have hQl : Q.length ≤ 194 := by have := quoteL_len xv; rw [hQ]; omega
        rw [← hQ] at hq5
        obtain ⟨N1, hN1⟩ : ∃ N1 : ByteArray, N1 = xn ++ ⟨#[61]⟩ := ⟨_, rfl⟩
        obtain ⟨N2, hN2⟩ : ∃ N2 : ByteArray, N2 = N1 ++ ⟨Q.toArray⟩ := ⟨_, rfl⟩
        have hszQ : (⟨Q.toArray⟩ : ByteArray).size = Q.length := rfl
        have hN1s : N1.size ≤ 65 := by rw [hN1, ByteArray.size_append]; exact Nat.add_le_add hx64.1 (Nat.le_refl 1)
        have hN2s : N2.size ≤ 300 := by rw [hN2, ByteArray.size_append, hszQ]; omega
        have hN2d : bc T ++ bc [if k = 0 then 123 else 44] ++ Lib.strCells N2 = bc (T ++ itemL k (xn, xv)) := by
          rw [strCells_eq, ← bc_append, ← bc_append, hN2, hN1, hQ]
          congr 1
          simp [itemL]
        have add1 : ∀ W, (Op.stringOp .add xn ⟨#[61]⟩).run Tryd.prog W = .ok (.string N1) W := fun W => by
          rw [hN1]; exact run_string_add_sum W _ _ (by have : (⟨#[61]⟩ : ByteArray).size = 1 := rfl; omega)
        have add2 : ∀ W, (Op.stringOp .add N1 ⟨Q.toArray⟩).run Tryd.prog W = .ok (.string N2) W := fun W => by rw [hN2]; exact run_string_add_sum W _ _ (by omega)
        have HN2 := Lib.hid hN2d
        have HLEN : Hid ((bc T ++ bc [if k = 0 then 123 else 44]).length + N2.size ≤ 140737488355328) := by
          show _ ≤ _
          rw [← bc_append, bc_len, List.length_append]; simp; omega
        have HAX := Lib.hid ax
        clear ax hbd hbe hQ hb3 hN1 hN2 hN2d hszQ
        go_region_held3 (fun w' => w'.cell? ⟨wr.heap.size, 0, none⟩ = some (.string xn) ∧ w'.cell? ⟨wr.heap.size, 1, none⟩ = some (.string xv)) (first | go_keep | exact ⟨ax4.at_ (i := 0) (v := .string xn) rfl, ax4.at_ (i := 1) (v := .string xv) rfl⟩ | exact ⟨ax6.at_ (i := 0) (v := .string xn) rfl, ax6.at_ (i := 1) (v := .string xv) rfl⟩) (first | (go_at_call 27; refine hq5.mono ?_; rintro e w4 ⟨rfl, hb5⟩; have ax4 := HAX.out.drew.below hb5 hw3; have hs5 := hb5.size; have hq6 := Tryd.Builder_WriteString_k w1.heap.size w1.heap.size _ N2 w4 (isb_kp (Or.inr HB3.out.drew) (Kp.none_of_below hb5)) HLEN.out (Nat.le_trans hs3 hs5)) | (go_at_call 26; refine hq6.mono ?_; rintro e w6 ⟨rfl, hb7, hbe7, hoth7⟩; have ax6 := ax4.others hoth7 (by omega) (by decide)))
        have HF : Hid (Lib.IsBuilderF 50 5 w1.heap.size w1.heap.size (bc (tTo m (k + 1))) w6 ∧ Below w1.heap.size w1 w6) := by
          refine ⟨?_, (hb4.drew.trans (hb5.mono (by simp; omega))).trans hbe7⟩
          rw [HTS.out, ← HN2.out]
          exact Or.inr hb7
        clear hb7 hbe7 hoth7 ax6 ax4 hb5 hb4
        go_wp2_with fail
        go_roundw
        case rel => exact ⟨k + 1, by omega, by go_num, HF.out.1, HF.out.2⟩
        case measure => simp [intOf]; omega
      · obtain rfl : k = N := by omega
        have hq := Tryd.Builder_String_any_k w1.heap.size w1.heap.size (tTo m k) wr hbd hsz
        have htl := tTo_len h4 k (by rw [← HN.out]; exact Nat.le_refl _)
        have hfin : tTo m k ++ [125] = textM m := by rw [HN.out]; exact textM_to m
        obtain ⟨T, hT⟩ : ∃ T, T = tTo m k := ⟨_, rfl⟩
        rw [← hT] at hq hfin htl
        have HA : Hid ((⟨T.toArray⟩ ++ ⟨#[125]⟩ : ByteArray) = ⟨(textM m).toArray⟩) := by
          show _ = _
          rw [← hfin, show (⟨#[125]⟩ : ByteArray) = ⟨[125].toArray⟩ from rfl, ByteArray.mk_append_mk]
        have HB := Lib.hid hbe
        have hsT : (⟨T.toArray⟩ : ByteArray).size ≤ 10000 := by have h1 : (⟨T.toArray⟩ : ByteArray).size = T.length := rfl; omega
        clear hfin hT hbd hbe
        go_wp2_with (go_at_call 28; refine hq.mono ?_; rintro e w3 ⟨rfl, _, hbe3, _⟩)
        go_ret
        exact ⟨by rw [HA.out]; rfl, hb.trans ((HB.out.trans hbe3).mono hb.size)⟩
end Go.Proofs.YtlicnadbccjbjaaDoor
