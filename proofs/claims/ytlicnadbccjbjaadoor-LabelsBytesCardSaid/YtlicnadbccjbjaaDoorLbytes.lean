/- Values of all bytes are printed so that they are read again, in bytes from 32 to 126. -/
import Derived.Test.YtlicnadbccjbjaaDoorText
import Derived.Test.YtlicnadbccjbjaaDoorDparse
import Derived.Test.YtlicnadbccjbjaaDoorOpenL
import Derived.Test.YtlicnadbccjbjaaDoorLaid
import Derived.Test.YtlicnadbccjbjaaDoorCards
import Derived.Test.YtlicnadbccjbjaaDoorChecked
import Derived.ChangeSlices
import Derived.Laws.IdiomStrings
namespace Go.Proofs.YtlicnadbccjbjaaDoor.labelsBytes
open Go.ChangeShapes Go.WideShapes Go.ChangeAt Go.RowKit Go.Deep LB

def pr (c : UInt8) : Prop := 32 ≤ c.toNat ∧ c.toNat ≤ 126
instance (c : UInt8) : Decidable (pr c) := inferInstanceAs (Decidable (_ ∧ _))
theorem pr_hexF : ∀ n : Fin 16, pr (hexD n.val) := by decide
theorem pr_esc (a : UInt8) : ∀ c ∈ escB a, pr c := by
  intro c hc
  have ha : a.toNat < 256 := a.toNat_lt
  unfold escB at hc
  split at hc
  · simp only [List.mem_cons, List.not_mem_nil, or_false] at hc
    rcases hc with rfl | rfl | rfl
    · decide
    · exact pr_hexF ⟨a.toNat / 16, by omega⟩
    · exact pr_hexF ⟨a.toNat % 16, by omega⟩
  · simp only [List.mem_cons, List.not_mem_nil, or_false] at hc
    subst hc
    unfold pr; omega
theorem pr_quote (s : ByteArray) : ∀ c ∈ quoteL s, pr c := by
  intro c hc
  unfold quoteL at hc
  simp only [List.cons_append, List.mem_cons, List.mem_append, List.mem_flatMap, List.not_mem_nil, or_false] at hc
  rcases hc with rfl | ⟨a, _, h⟩ | rfl
  · decide
  · exact pr_esc a c h
  · decide
theorem pr_name {s : ByteArray} (h : nameB s = true) : ∀ c ∈ s.data.toList, pr c := by
  intro c hc
  unfold nameB plainB at h
  simp only [Bool.and_eq_true, List.all_eq_true] at h
  have := h.2 c hc
  unfold okB at this
  simp only [Bool.or_eq_true, Bool.and_eq_true, decide_eq_true_eq] at this
  unfold pr; omega
theorem pr_items {m : List Lab} (ho : ∀ x ∈ m, labOK x = true) : ∀ a, pr a → ∀ c ∈ itemsL a m, pr c := by
  induction m with
  | nil => intro a _ c hc; simp [itemsL] at hc
  | cons x r ih =>
    intro a ha c hc
    have hx := ho x List.mem_cons_self
    unfold labOK at hx
    simp only [Bool.and_eq_true] at hx
    simp only [itemsL, List.cons_append, List.mem_cons, List.mem_append] at hc
    rcases hc with rfl | (h | rfl | h) | h
    · exact ha
    · exact pr_name hx.1.1 c h
    · decide
    · exact pr_quote _ c h
    · exact ih (fun y hy => ho y (List.mem_cons_of_mem _ hy)) 44 (by decide) c h
theorem pr_text {m : List Lab} (ho : ∀ x ∈ m, labOK x = true) : ∀ c ∈ textM m, pr c := by
  intro c hc
  unfold textM at hc
  rw [List.mem_append] at hc
  rcases hc with h | h
  · exact pr_items ho 123 (by decide) c h
  · rw [List.mem_singleton.1 h]; decide

/-- Bytes that a slice reads as. -/
def By (w : World) (B : Nat) (A : Option Addr) (n : Nat) (l : List UInt8) : Prop :=
  l.length = n ∧ (0 < n → ∃ b off, A = some ⟨b, off, none⟩ ∧ b < B ∧ ∀ j (hj : j < l.length), w.cell? ⟨b, off + j, none⟩ = some (.int .u8 (l[j].toNat : Int)))
theorem By.below {w w' : World} {B n : Nat} {A : Option Addr} {l : List UInt8} (h : By w B A n l) (hb : Below B w w') : By w' B A n l :=
  ⟨h.1, fun hn => let ⟨b, off, h1, h2, h3⟩ := h.2 hn; ⟨b, off, h1, h2, fun j hj => (hb.cell (p := ⟨b, off + j, none⟩) h2).trans (h3 j hj)⟩⟩
theorem By.conv {w : World} {B n c : Nat} {A : Option Addr} {l : List UInt8} (h : By w B A n l) (hn : 0 < n) : (convert 35 9 (.slice A n c)).run Tryd.prog w = .ok (.string (bs l)) w := by
  obtain ⟨b, off, rfl, _, h3⟩ := h.2 hn
  obtain rfl := h.1
  exact run_convert_bytes_back w 35 9 5 ⟨b, off, none⟩ c l Tryd.underlying35 Tryd.underlying5 Tryd.underlying9 fun j hj => by rw [Go.WideShapes.add_plain]; exact h3 j hj
theorem Tryd.cells5 : Tryd.prog.cellsOf 5 = 1 := by kernel_rfl
theorem open_by {H : Type} {enc : TypeId × Value → H} {W : World} {t base : Nat} {v : Value} {d : DataW H} {p : List MemPlace} (ht : Tryd.prog.underlying t = some (.slice 5))
    (hv : Value.okWide Tryd.prog W .any base t v) (h : DataW.Trod enc Tryd.prog W 0 (fun _ => true) true t v d p) (hlt : ∀ x ∈ p, x.block < W.heap.size) :
    ∃ (A : Option Addr) (n c : Nat) (l : List UInt8), v = .slice A n c ∧ By W W.heap.size A n l := by
  obtain ⟨A, n, c, rfl⟩ := okWide_slice ht hv
  obtain ⟨fuel, hf⟩ := h
  rcases open_ints ht Tryd.underlying5 Tryd.cells5 hf with ⟨hc, hx⟩ | ⟨a, len, cap, zs, hc, _, hl, hm, hz, hx, hcell, hwf⟩
  · simp [Value.cells] at hc
    obtain ⟨rfl, rfl, rfl⟩ := hc
    exact ⟨none, 0, 0, [], rfl, rfl, fun h => absurd h (by omega)⟩
  · simp [Value.cells] at hc
    obtain ⟨rfl, rfl, rfl⟩ := hc
    simp only [if_true] at hz
    simp only [Prod.mk.injEq] at hx
    refine ⟨some a, n, c, (zs.take n).map (fun z => UInt8.ofNat z.toNat), rfl, by simp; omega, fun hn => ?_⟩
    obtain ⟨b, off, spot⟩ := a
    have hspot : spot = none := by simpa [Addr.add] using World.cell?_spot (hcell 0 (by omega))
    subst hspot
    refine ⟨b, off, rfl, ?_, fun j hj => ?_⟩
    · have := hlt (.cell b off) (by rw [hx.2]; exact MemPlace.mem_row.2 ⟨0, by omega, rfl⟩)
      exact this
    · have hj1 : j < n := by simp at hj; omega
      have hj2 : j < zs.length := by omega
      have g0 := hcell j hj2
      rw [Go.WideShapes.add_plain] at g0
      have hw := hwf zs[j] (List.getElem_mem _)
      have hr : 0 ≤ zs[j] ∧ zs[j] < 256 := by
        have e1 : IntKind.u8.min = 0 := by decide
        have e2 : IntKind.u8.max = 255 := by decide
        have : 0 ≤ zs[j] ∧ zs[j] ≤ 255 := by simpa [Lit.wf, e1, e2] using hw
        omega
      rw [g0]
      simp only [List.getElem_map, List.getElem_take]
      have hgd : zs.getD j 0 = zs[j] := by simp [List.getD, List.getElem?_eq_getElem hj2]
      have hu : ((UInt8.ofNat zs[j].toNat).toNat : Int) = zs[j] := by
        have h1 : zs[j].toNat < 256 := by omega
        have h2 : (UInt8.ofNat zs[j].toNat).toNat = zs[j].toNat := by simp; omega
        rw [h2]; omega
      rw [hgd, hu]
def sX : ByteArray := ⟨#[120]⟩
theorem mk_one {b : ByteArray} (h0 : 0 < b.size) (h1 : b.size ≤ 64) : mkL [(sX, b)] = some [(sX, b)] := by
  have hx : labOK (sX, b) = true := by
    have : nameB sX = true := by rfl
    simp [labOK, this, h0, h1]
  simp [mkL, foldL, stepL, hx, insL]

set_option maxRecDepth 100000 in
set_option maxHeartbeats 4000000 in
theorem walk (A0 : Option Addr) (n0 c0 : Nat) (l0 : List UInt8) (ea : Addr) (w : World) (h0 : By w w.heap.size A0 n0 l0) (he : w.cell? ⟨0, 0, none⟩ = some (errV ea)) (hp : 0 < w.heap.size) :
    Calls Tryd.prog 5 #[.slice A0 n0 c0] w fun e w' => e = .returned (.bool true) ∧ Below w.heap.size w w' := by
  have hal := alive_any w
  have HE := Lib.hid he
  clear he
  by_cases hz : n0 = 0
  · subst hz
    go_enter Tryd.func5, Tryd.ntmps5
    go_wp2_with fail
    refine hal.mono ?_
    rintro e w1 ⟨rfl, hb1⟩
    go_wp2_with fail
    go_ret
    exact ⟨rfl, hb1⟩
  · by_cases h64 : 64 < n0
    · have d1 : decide (n0 < 1) = false := decide_eq_false (by omega)
      have d2 : decide (64 < n0) = true := decide_eq_true h64
      have d3 : decide ((n0 : Int) < 1) = false := decide_eq_false (by omega)
      have d4 : decide ((64 : Int) < (n0 : Int)) = true := decide_eq_true (by omega)
      go_enter Tryd.func5, Tryd.ntmps5
      go_wp2_with fail
      refine hal.mono ?_
      rintro e w1 ⟨rfl, hb1⟩
      go_wp2_with fail
      go_ret
      exact ⟨rfl, hb1⟩
    · have d1 : decide (n0 < 1) = false := decide_eq_false (by omega)
      have d2 : decide (64 < n0) = false := decide_eq_false h64
      have d3 : decide ((n0 : Int) < 1) = false := decide_eq_false (by omega)
      have d4 : decide ((64 : Int) < (n0 : Int)) = false := decide_eq_false (by omega)
      go_enter Tryd.func5, Tryd.ntmps5
      go_wp2_with fail
      refine hal.mono ?_
      rintro e w1 ⟨rfl, hb1⟩
      have hcv : (convert 35 9 (.slice A0 n0 c0)).run Tryd.prog w1 = .ok (.string (bs l0)) w1 := (h0.below hb1).conv (by omega)
      go_wp2_with fail
      have hmk : mkL [(sX, bs l0)] = some [(sX, bs l0)] := mk_one (by rw [bs_size, h0.1]; omega) (by rw [bs_size, h0.1]; omega)
      obtain ⟨m, hm⟩ : ∃ m, m = [(sX, bs l0)] := ⟨_, rfl⟩
      have hm1 : m.length = 1 := by rw [hm]; rfl
      have hlv : Lv (w1.alloc (.cells #[.string ⟨#[120]⟩, .string (bs l0)] 37)) (w1.heap.size + 1) (some ⟨w1.heap.size, 0, none⟩) 1 m := by
        rw [hm]; exact lv_lit w1 [(sX, bs l0)] (by simp)
      rw [← hm] at hmk
      clear hm hcv
      obtain ⟨w2, hw2⟩ : ∃ w2, w2 = w1.alloc (.cells #[.string ⟨#[120]⟩, .string (bs l0)] 37) := ⟨_, rfl⟩
      have hb2 : Below w.heap.size w w2 := by rw [hw2]; exact hb1.alloc hb1.size _
      have hs2 : w2.heap.size = w1.heap.size + 1 := by rw [hw2]; simp
      rw [← hw2] at hlv ⊢
      obtain ⟨S, hS⟩ : ∃ S, S = bs (textM m) := ⟨_, rfl⟩
      have htx := text_any (some ⟨w1.heap.size, 0, none⟩) 1 1 (w1.heap.size + 1) m w2 hlv (by omega)
      have et : (⟨(textL m).toArray⟩ : ByteArray) = S := by rw [hS, good_text (show Good m from hmk)]; rfl
      rw [et] at htx
      have hsd : S.data.toList = textM m := by rw [hS, bs_data]
      obtain ⟨g1, g2, g3, g4, _, g6⟩ := mkL_small hmk
      have hpr : ∀ (i : Nat) (h : i < S.size), pr S[i] := fun i h => pr_text g6 S[i] (by
        rw [← hsd]
        exact List.mem_iff_getElem.2 ⟨i, by simpa using h, by simp; rfl⟩)
      have hsz : S.size ≤ 1000000 := by
        have := tTo_len g4 m.length (Nat.le_refl _)
        rw [hS, bs_size, ← textM_to, List.length_append]
        simp; omega
      have HPR := Lib.hid hpr
      have HSD := Lib.hid (And.intro hsd (show Good m from hmk))
      have HLV := Lib.hid hlv
      have HM1 := Lib.hid hm1
      clear hpr hsd hmk hS et hw2 g1 g2 g3 g4 g6 hlv hm1 hal
      refine htx.mono ?_
      rintro e w3 ⟨rfl, hb3⟩
      have hb3w : Below w.heap.size w w3 := hb2.trans (hb3.mono hb2.size)
      have hpa := parse12 S ea w3 hsz ((hb3w.cell (p := ⟨0, 0, none⟩) hp).trans HE.out) (Nat.lt_of_lt_of_le hp hb3w.size)
      clear htx
      go_wp2_with fail
      refine hpa.mono ?_
      rintro e w4 ⟨hb4, hh⟩
      have hb4w : Below w.heap.size w w4 := hb3w.trans (hb4.mono hb3w.size)
      rcases hh with ⟨v, l, rfl, hown, hgl, htl, hun⟩ | ⟨rfl, hno⟩
      · obtain rfl : m = l := hun m HSD.out.2 HSD.out.1.symm
        rw [HM1.out] at hown
        obtain ⟨A5, c5, rfl, hlv5, hc51, hc52⟩ := Lv.of_own hown
        have hs3 := hb3.size
        have HLL := Lib.hid (And.intro hlv5 (((HLV.out.below (hb3.mono (by omega))).below (hb4.mono (by omega)))))
        clear hpa hun hgl htl hown hlv5
        go_wp2_with fail
        go_loopw [8] (fun i wr => ∃ k : Nat, k ≤ S.size ∧ i = .int .i64 k ∧ wr = w4) (fun i _ => S.size - (intOf i).toNat)
        case atStart => exact ⟨0, Nat.zero_le _, rfl, rfl⟩
        case round =>
          obtain ⟨k, hk, rfl, rfl⟩ := hrel
          by_cases hlt : k < S.size
          · obtain ⟨q1, q2⟩ := HPR.out k hlt
            have z1 : decide ((S[k].toNat : Int) < 32) = false := decide_eq_false (by omega)
            have z2 : decide (126 < (S[k].toNat : Int)) = false := decide_eq_false (by omega)
            have z3 : decide (S[k].toNat < 32) = false := decide_eq_false (by omega)
            have z4 : decide (126 < S[k].toNat) = false := decide_eq_false (by omega)
            go_wp2_with fail
            go_roundw
            case rel => exact ⟨k + 1, by omega, by go_num, by trivial⟩
            case measure => simp [intOf]; omega
          · obtain rfl : k = S.size := by omega
            have hq1 := same_any A5 (some ⟨w1.heap.size, 0, none⟩) 1 c5 _ 1 _ m wr HLL.out.1 HLL.out.2 (by omega)
            go_wp2_with fail
            refine (num12 _ _).mono ?_
            rintro e w7 ⟨rfl, hw7⟩
            rw [hw7]
            clear hw7 w7
            go_wp2_with fail
            refine hq1.mono ?_
            rintro e w7 ⟨rfl, k7, rfl⟩
            go_wp2_with fail
            go_ret
            exact ⟨rfl, below_drewN hb4w _⟩
      · exact absurd HSD.out.1.symm (hno m HSD.out.2)
set_option maxRecDepth 100000 in
theorem lifted (os : Os) (started : os.Started) (H : Type) (enc : TypeId × Value → H) :
    ReturnsInHanded {} Tryd.checked os 5 .any (fun w args => (Rows.labelsBytesSpec.pre enc Tryd.prog Tryd.f5 [] false w args ∧ laidMetH Tryd.prog laidE w) ∧ sizedMet enc Tryd.prog Tryd.f5 (OpenSpec.ofChange Rows.labelsBytesSpec) false w args)
      (Rows.labelsBytesSpec.post enc Tryd.prog Tryd.f5 false true false false) := by
  refine returnsInHanded_of_change_and (C := Tryd.checked) (X := fun w _ => laidMetH Tryd.prog laidE w) (fun _ _ _ hh h => h.of_heap hh) Tryd.own started (by kernel_rfl) Tryd.func5
    (ChangeSpec.witness_shaped (enc := enc) (C := Tryd.checked) (os := os) (X := fun w _ => laidMetH Tryd.prog laidE w) false (World.doorLaid Tryd.prog 400 os) #[.slice none 0 0] 8 rfl (World.shaped_of_RefB (by kernel_rfl) (by kernel_rfl)) (by kernel_rfl) (by kernel_rfl) (by kernel_rfl) (door_met os _)) ?_
  intro W base args ds gs before hval0 hW _ hwt0 hL _
  have hval : ∀ (j : Nat) t v, Tryd.f5.params[j]? = some t → args[j]? = some v → Value.okWide Tryd.prog W .any base t v := hval0
  have hwt : ∀ n ∈ DataW.weightsEach Tryd.prog (Tryd.f5.params.toList ++ Rows.labelsBytesSpec.plain.varTypes Tryd.prog) (ds ++ gs), n ≤ reachBytes := fun n hn => by
    have := List.all_eq_true.1 hwt0 n hn
    simpa using this
  have hW' := hW
  obtain ⟨p, q, hA0, hV, rfl, _, _⟩ := hW
  have hA : DataW.TrodAll enc Tryd.prog W 0 (fun _ => true) true Tryd.f5.params.toList args.toList ds p := hA0
  rw [Tryd.params5] at hA hval hwt
  obtain ⟨v0, vs0, d0, ds0, p0, q0, hargs, rfl, rfl, h0, r0⟩ := trodAll_cons hA
  obtain ⟨rfl, rfl, rfl⟩ := trodAll_nil r0
  obtain rfl : args = #[v0] := by cases args; simp_all
  obtain ⟨rfl, rfl⟩ := trodVars_none hV
  obtain ⟨ea, hea, hpos⟩ := of_laid hL
  have hlt : ∀ x, (x ∈ p0) → x.block < W.heap.size := fun x hx => hW'.lt x (by simpa using hx)
  obtain ⟨A0, n0, c0, l0, rfl, rd0⟩ := open_by Tryd.underlying35 (hval 0 35 v0 rfl rfl) h0 (fun x hx => hlt x (by simp [hx]))
  refine (walk A0 n0 c0 l0 ea W rd0  hea hpos).mono fun e W' ⟨he, hb⟩ => ?_
  subst he
  exact ⟨_, rfl, law_post Tryd.laidOut (by kernel_rfl) rfl rfl Tryd.underlying4 hW' ⟨rfl, rfl, rfl⟩ hb⟩

theorem over : Rows.labelsBytesRow.holds Tryd.pinned (OpenSpec.ofChange Rows.labelsBytesSpec) :=
  OpenClaim.holds_of_wide 5 Tryd.f5 rfl rfl rfl rfl rfl rfl rfl ⟨rfl, rfl, rfl, rfl, rfl⟩ rfl rfl rfl rfl rfl (by kernel_rfl) Tryd.func5 (by kernel_rfl)
    (of_decide_eq_true (by kernel_rfl)) (by unfold Func.isWrapper; first | (rw [if_pos (by decide +kernel)]; kernel_rfl) | (rw [if_neg (by decide +kernel)]; exact ⟨rfl, rfl⟩))
    (fun os started H enc _ => lifted os started H enc)

/-- THE STATEMENT. -/
theorem proved : Rows.LabelsBytesCardSaid :=
  Claim7.holds_tied_plain_at .later [] [.sentinel] true (true, "79b33d0637f02b4c11730adcb40bb79974f4ea777e4c0ca631d8fa8834c34d22") false
    over (fun _ h => by cases h) (by kernel_rfl) (fun _ h => by cases h) labelsBytes_row_tie rfl ⟨rfl, rfl⟩ (by kernel_rfl) rfl
    (fun f fn hf hfn => by
      obtain rfl : f = 5 := Option.some.inj ((show Tryd.prog.funcNamed "lysimeter/lysimeterlaw11.LabelsBytes" = some 5 by kernel_rfl).symm.trans hf) |>.symm
      obtain rfl : fn = Tryd.f5 := (Option.some.inj (Tryd.func5.symm.trans hfn)).symm
      exact ⟨by kernel_rfl, fun j t ht => by
        rw [Tryd.params5] at ht
        have hm : t ∈ [35] := by simpa using Array.mem_of_getElem? ht
        have hall : ([35].all fun u => !Tryd.prog.wantsStandIn u) = true := by kernel_rfl
        exact (show Tryd.prog.wantsStandIn t = false by simpa using List.all_eq_true.1 hall t hm)⟩)
    (by kernel_rfl)
end Go.Proofs.YtlicnadbccjbjaaDoor.labelsBytes
