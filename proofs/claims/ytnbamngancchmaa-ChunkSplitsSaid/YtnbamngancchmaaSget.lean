/- What stamps.take and stamps.get do: a difference is read, or they give up. Conditions: at most 10^9 bytes. -/
import Derived.Test.YtnbamngancchmaaGet
import Derived.Deep.RegionWith
namespace Go.Proofs.Ytnbamngancchmaa
open Go.RowKit PB PS

set_option maxRecDepth 100000 in
theorem newReader_any (A : Option Addr) (n c B : Nat) (l : List Nat) (w : World) (hr : Rd w B A n (l.map bv)) (hB : B ≤ w.heap.size) (hn : n ≤ 1000000000) :
    Calls Try.prog 45 #[.slice A n c] w fun e w' => ∃ g A' c', e = .returned (.pointer (some ⟨g, 0, none⟩)) ∧ Rdr w' g A' n c' l 0 ∧ Below w.heap.size w w' ∧ w.heap.size ≤ g ∧ (0 < n → ∀ b off, A' = some ⟨b, off, none⟩ → w.heap.size ≤ b) := by
  have hcl := clone_any A n c B (l.map bv) w hr hB (by intro u hu; simp only [List.mem_map] at hu; obtain ⟨x, _, rfl⟩ := hu; rfl) hn
  go_enter Try.func45, Try.ntmps45
  go_wp2_with fail
  refine hcl.mono ?_
  rintro e w1 ⟨v, rfl, hown, hb⟩
  have hlow : ∀ x, v.ownBlock = some x → w.heap.size ≤ x := fun x hx => (hown.lt x hx).1
  obtain ⟨A', c', rfl, hr', _⟩ := Rd.of_own hown
  have HR : Hid (Rdr (w1.alloc (.cells #[.slice A' n c', .int .i64 0] 120)) w1.heap.size A' n c' l 0 ∧ Below w.heap.size w (w1.alloc (.cells #[.slice A' n c', .int .i64 0] 120)) ∧ w.heap.size ≤ w1.heap.size ∧ (0 < n → ∀ b off, A' = some ⟨b, off, none⟩ → w.heap.size ≤ b)) :=
    ⟨⟨Arr.new _ _ _, hr'.keep fun x hx => Below.heap_alloc w1 _ x hx, by omega⟩, hb.alloc hb.size _, hb.size, fun _ b off h => hlow b (by rw [h]; rfl)⟩
  clear hown hr' hb hcl hlow
  go_wp2_with fail
  go_ret
  exact ⟨_, A', c', rfl, HR.out⟩

/-- What a reading of times gives up with. -/
def gaveUpS (e : Int) : Ending := .panicked [{ v := .iface 74 (.agg #[.int .i64 e]), recovered := false }]

set_option maxRecDepth 100000 in
theorem stake_some (g n c pos m : Nat) (A : Option Addr) (l : List Nat) (w : World) (h : Rdr w g A n c l pos) (hn : n ≤ 1000000000) (hm : m ≤ 64) (hle : pos + m ≤ 8 * n) (hb : ∀ x ∈ l, x < 256) :
    Calls Try.prog 46 #[.pointer (some ⟨g, 0, none⟩), .int .i64 (m : Int)] w fun e w' => e = .returned (.int .i64 (wrap64 ((natOf (((bitsOf l).drop pos).take m) : Nat) : Int))) ∧ Rdr w' g A n c l (pos + m) ∧ Kp (fun x => x = g) w w' := by
  have hq := get_some g n c pos m A l w h hn hm hle hb
  obtain ⟨v, hv⟩ : ∃ v, v = wrap64 ((natOf (((bitsOf l).drop pos).take m) : Nat) : Int) := ⟨_, rfl⟩
  rw [← hv] at hq ⊢
  clear hv
  go_enter Try.func46, Try.ntmps46
  go_wp2_with fail
  refine hq.mono ?_
  rintro e w3 ⟨rfl, hr3⟩
  go_wp2_with fail
  go_ret
  exact ⟨rfl, hr3⟩

set_option maxRecDepth 100000 in
theorem stake_none (g n c pos m : Nat) (A : Option Addr) (l : List Nat) (w : World) (h : Rdr w g A n c l pos) (hn : n ≤ 1000000000) (hm : m ≤ 64) (hlt : 8 * n < pos + m) :
    Calls Try.prog 46 #[.pointer (some ⟨g, 0, none⟩), .int .i64 (m : Int)] w fun e w' => e = gaveUpS 5 ∧ Rdr w' g A n c l pos ∧ Kp (fun x => x = g) w w' := by
  have hq := get_none g n c pos m A l w h hn hm hlt
  go_enter Try.func46, Try.ntmps46
  go_wp2_with fail
  refine hq.mono ?_
  rintro e w3 ⟨rfl, hr3⟩
  go_wp2_with fail
  exact ⟨rfl, rfl, hr3⟩

theorem W20_index {k : Nat} (hk : k ≤ 4) (w : World) : (Instr.index 112 (.agg W20) (.int .i64 (k : Int))).run Try.prog w = .ok (.agg #[.int .i64 (k : Int), .int .i64 ((wid k : Nat) : Int), .int .i64 (low k), .int .i64 (high k)]) w := by
  obtain rfl | rfl | rfl | rfl | rfl : k = 0 ∨ k = 1 ∨ k = 2 ∨ k = 3 ∨ k = 4 := by omega
  all_goals kernel_rfl

/-- What stamps.get answers. -/
def SgetPost (w : World) (g n c : Nat) (A : Option Addr) (l : List Nat) (r : Option (Int × Nat)) (e : Ending) (w' : World) : Prop :=
  Kp (fun x => x = g) w w' ∧ (∀ x p, r = some (x, p) → e = .returned (.int .i64 x) ∧ Rdr w' g A n c l p) ∧ (r = none → e = gaveUpS 5)

theorem onesF_true {B : List Bool} {f p : Nat} (h : B[p]? = some true) : onesF B (f + 1) p = (onesF B f (p + 1)).map fun x => (x.1 + 1, x.2) := by simp only [onesF, h]
theorem onesF_false {B : List Bool} {f p : Nat} (h : B[p]? = some false) : onesF B (f + 1) p = some (0, p + 1) := by simp only [onesF, h]
theorem onesF_none {B : List Bool} {f p : Nat} (h : B[p]? = none) : onesF B (f + 1) p = none := by simp only [onesF, h]
theorem wrap_b1 : wrap64 ((b2n true : Nat) : Int) = 1 := by unfold wrap64 b2n; rfl
theorem wrap_b0 : wrap64 ((b2n false : Nat) : Int) = 0 := by unfold wrap64 b2n; rfl
theorem natOf_one (b : Bool) : natOf [b] = b2n b := by cases b <;> rfl
theorem take_one {B : List Bool} {p : Nat} (h : p < B.length) : (B.drop p).take 1 = [B[p]] := by
  rw [List.take_succ_eq_append_getElem (by rw [List.length_drop]; omega), List.getElem_drop]
  simp

set_option maxRecDepth 100000 in
set_option maxHeartbeats 1000000 in
theorem sget_any (g n c pos : Nat) (A : Option Addr) (l : List Nat) (w : World) (h : Rdr w g A n c l pos) (hn : n ≤ 1000000000) (hb : ∀ x ∈ l, x < 256) :
    Calls Try.prog 47 #[.pointer (some ⟨g, 0, none⟩)] w (SgetPost w g n c A l (getDiff (bitsOf l) pos)) := by
  have HB := Lib.hid hb
  have HLEN : Hid ((bitsOf l).length = 8 * n) := by show _ = _; rw [bitsOf_length, h.len]
  clear hb
  go_enter Try.func47, Try.ntmps47
  go_wp2_with fail
  go_loopw [3] (fun i wr => ∃ k p : Nat, k ≤ 4 ∧ i = .int .i64 k ∧ Hid (onesF (bitsOf l) 4 pos = (onesF (bitsOf l) (4 - k) p).map fun x => (x.1 + k, x.2)) ∧ Rdr wr g A n c l p ∧ Kp (fun x => x = g) w wr) (fun i _ => 4 - (intOf i).toNat)
  case atStart => exact ⟨0, pos, by omega, rfl, by show _ = _; simp, h, Kp.refl _ _⟩
  case round =>
    obtain ⟨k, p, hk, rfl, HO, hr, hkp⟩ := hrel
    by_cases hlt : k < 4
    · have hp := hr.at_
      by_cases hin : p < 8 * n
      · obtain ⟨b, hbb⟩ : ∃ b, (bitsOf l)[p]? = some b := ⟨_, List.getElem?_eq_getElem (by rw [HLEN.out]; exact hin)⟩
        have hq := stake_some g n c p 1 A l wr hr hn (by omega) (by omega) HB.out
        have hone : ((bitsOf l).drop p).take 1 = [b] := by
          have hl : p < (bitsOf l).length := by rw [HLEN.out]; exact hin
          rw [take_one hl]
          rw [List.getElem?_eq_getElem hl] at hbb
          injection hbb with hbb
          rw [hbb]
        rw [hone, natOf_one] at hq
        have HBB := Lib.hid hbb
        clear hbb hone
        cases b with
        | true =>
          rw [wrap_b1] at hq
          go_wp2_with fail
          refine hq.mono ?_
          rintro e w2 ⟨rfl, hr2, hk2⟩
          have HO2 : Hid (onesF (bitsOf l) 4 pos = (onesF (bitsOf l) (4 - (k + 1)) (p + 1)).map fun x => (x.1 + (k + 1), x.2)) := by
            have := HO.out
            rw [show 4 - k = (4 - (k + 1)) + 1 by omega] at this
            rw [onesF_true HBB.out] at this
            show _ = _
            rw [this, Option.map_map]
            congr 1
            funext x
            simp only [Function.comp]
            congr 1
            omega
          have HR : Hid (Rdr w2 g A n c l (p + 1) ∧ Kp (fun x => x = g) w w2) := ⟨hr2, hkp.trans hk2 (fun _ _ h => h)⟩
          clear hq hr hkp hr2 hk2
          go_wp2_with fail
          go_roundw
          case rel => exact ⟨k + 1, p + 1, by omega, by go_num, HO2, HR.out.1, HR.out.2⟩
          case measure => simp [intOf]; omega
        | false =>
          rw [wrap_b0] at hq
          go_wp2_with fail
          refine hq.mono ?_
          rintro e w2 ⟨rfl, hr2, hk2⟩
          have HT : Hid (onesF (bitsOf l) 4 pos = some (k, p + 1)) := by
            have := HO.out
            rw [show 4 - k = (4 - (k + 1)) + 1 by omega] at this
            rw [onesF_false HBB.out] at this
            show _ = _
            rw [this]; simp
          have hkp2 := hkp.trans hk2 (fun _ _ h => h)
          clear hq hr hkp hk2
          have hidx := W20_index (k := k) hk
          go_wp2_with (go_at_call 66; refine (widths_any _).mono ?_; rintro e w' ⟨rfl, rfl⟩)
          obtain ⟨w3, hw3⟩ : ∃ w3, w3 = (w2.alloc (.cells W20 112)).alloc (.cells #[.int .i64 (k : Int), .int .i64 ((wid k : Nat) : Int), .int .i64 (low k), .int .i64 (high k)] 111) := ⟨_, rfl⟩
          rw [← hw3]
          have hr3 : Rdr w3 g A n c l (p + 1) := by rw [hw3]; exact (hr2.alloc _).alloc _
          have hk3 : Kp (fun x => x = g) w w3 := by rw [hw3]; exact (hkp2.alloc _).alloc _
          have ha3 : Arr w3 (w2.heap.size + 1) 111 #[.int .i64 (k : Int), .int .i64 ((wid k : Nat) : Int), .int .i64 (low k), .int .i64 (high k)] := by
            have := Arr.new (w2.alloc (.cells W20 112)) 111 #[.int .i64 (k : Int), .int .i64 ((wid k : Nat) : Int), .int .i64 (low k), .int .i64 (high k)]
            rw [hw3]; simpa using this
          have hgx : g < w2.heap.size := hr2.arr.lt
          have d1 := ha3.at_ (i := 1) rfl
          have d2 := ha3.at_ (i := 2) rfl
          have hwid := wid_le k
          clear hw3 hr2 hkp2 hidx
          by_cases hfit : p + 1 + wid k ≤ 8 * n
          · have hq := stake_some g n c (p + 1) (wid k) A l w3.drew ⟨hr3.arr, hr3.rd, hr3.at_⟩ hn hwid hfit HB.out
            have hv : Hid (getDiff (bitsOf l) pos = some (wrap64 (wrap64 ((natOf (((bitsOf l).drop (p + 1)).take (wid k)) : Nat) : Int) + low k), p + 1 + wid k)) := by
              show _ = _
              unfold getDiff getAt
              rw [HT.out]
              simp only [Option.bind_some]
              rw [if_pos (by rw [HLEN.out]; exact hfit)]
              rfl
            obtain ⟨v, hv2⟩ : ∃ v, v = wrap64 ((natOf (((bitsOf l).drop (p + 1)).take (wid k)) : Nat) : Int) := ⟨_, rfl⟩
            rw [← hv2] at hq hv
            have hkeep : ∀ {w' : World}, Kp (fun x => x = g) w3.drew w' → ∀ i, w'.cell? ⟨w2.heap.size + 1, i, none⟩ = w3.cell? ⟨w2.heap.size + 1, i, none⟩ := fun hk i =>
              World.cell?_of_block (w := w3) (hk.block (w2.heap.size + 1) ha3.lt (by omega))
            clear hv2
            have HQ := Lib.hid hq
            clear hq
            go_region_held3 (fun w' => w'.cell? ⟨w2.heap.size + 1, 1, none⟩ = some (.int .i64 ((wid k : Nat) : Int)) ∧ w'.cell? ⟨w2.heap.size + 1, 2, none⟩ = some (.int .i64 (low k))) (first | go_keep | exact ⟨(hkeep hkc 1).trans d1, (hkeep hkc 2).trans d2⟩) ((go_at_call 46; refine HQ.out.mono ?_; rintro r0 w4 ⟨rfl, hrc, hkc⟩))
            have HR : Hid (SgetPost w g n c A l (getDiff (bitsOf l) pos) (.returned (.int .i64 (IntKind.i64.wrap (v + low k)))) w4) := by
              refine ⟨(hk3.drew).trans hkc (fun _ _ h => h), fun x y hxy => ?_, fun h => ?_⟩
              · rw [hv.out] at hxy
                simp only [Option.some.injEq, Prod.mk.injEq] at hxy
                obtain ⟨rfl, rfl⟩ := hxy
                exact ⟨by rw [IntWalk.i64_left], hrc⟩
              · rw [hv.out] at h; cases h
            clear hrc hkc
            go_wp2_with fail
            go_ret
            exact HR.out
          · have hq := stake_none g n c (p + 1) (wid k) A l w3.drew ⟨hr3.arr, hr3.rd, hr3.at_⟩ hn hwid (by omega)
            have hv : Hid (getDiff (bitsOf l) pos = none) := by
              show _ = _
              unfold getDiff getAt
              rw [HT.out]
              simp only [Option.bind_some]
              rw [if_neg (by rw [HLEN.out]; exact hfit)]
              rfl
            have HQ := Lib.hid hq
            clear hq
            have hmk : ∀ {w' : World}, Kp (fun x => x = g) w3.drew w' → SgetPost w g n c A l (getDiff (bitsOf l) pos) (.panicked [{ v := .iface 74 (.agg #[.int .i64 5]), recovered := false }]) w' := fun hk =>
              ⟨(hk3.drew).trans hk (fun _ _ h => h), fun x p h => (by rw [hv.out] at h; cases h), fun _ => rfl⟩
            refine wp_region_held_drew (S := fun w' => w'.cell? ⟨w2.heap.size + 1, 1, none⟩ = some (.int .i64 ((wid k : Nat) : Int)) ∧ w'.cell? ⟨w2.heap.size + 1, 2, none⟩ = some (.int .i64 (low k))) (by kernel_rfl) ⟨d1, d2⟩ (fun hHeld => ?_)
            refine wpAnyH_take (i := 0) (v := ?v0) rfl (by kernel_rfl) (by kernel_rfl) (by kernel_rfl) (fun _ _ _ h => h) (Or.inl ⟨by rfl, ?h0⟩) (by assumption) ?r0
            case h0 =>
              intro w5 hSw
              obtain ⟨s1, s2⟩ := hSw
              go_simp
              try with_reducible rfl
            simp only [Act.put, List.setIfInBounds_toArray, List.set_cons_zero, List.set_cons_succ]
            refine wpAnyH_take (i := 1) (v := ?v1) rfl (by kernel_rfl) (by kernel_rfl) (by kernel_rfl) (fun _ _ _ h => h) (Or.inl ⟨by rfl, ?h1⟩) (by assumption) ?r1
            case h1 =>
              intro w5 hSw
              obtain ⟨s1, s2⟩ := hSw
              go_simp
              try with_reducible rfl
            simp only [Act.put, List.setIfInBounds_toArray, List.set_cons_zero, List.set_cons_succ]
            refine wpAnyH_take (i := 2) (v := ?v2) rfl (by kernel_rfl) (by kernel_rfl) (by kernel_rfl) (fun _ _ _ h => h) (Or.inl ⟨by rfl, ?h2⟩) (by assumption) ?r2
            case h2 =>
              intro w5 hSw
              obtain ⟨s1, s2⟩ := hSw
              go_simp
              try with_reducible rfl
            simp only [Act.put, List.setIfInBounds_toArray, List.set_cons_zero, List.set_cons_succ]
            refine wpAnyH_take (i := 4) (v := ?v4) rfl (by kernel_rfl) (by kernel_rfl) (by kernel_rfl) (fun _ _ _ h => h) (Or.inl ⟨by rfl, ?h4⟩) (by assumption) ?r4
            case h4 =>
              intro w5 hSw
              obtain ⟨s1, s2⟩ := hSw
              go_simp
              try with_reducible rfl
            simp only [Act.put, List.setIfInBounds_toArray, List.set_cons_zero, List.set_cons_succ]
            refine wpAnyH_take (i := 5) (v := ?v5) rfl (by kernel_rfl) (by kernel_rfl) (by kernel_rfl) (fun _ _ _ h => h) (Or.inl ⟨by rfl, ?h5⟩) (by assumption) ?r5
            case h5 =>
              intro w5 hSw
              obtain ⟨s1, s2⟩ := hSw
              go_simp
              try with_reducible rfl
            simp only [Act.put, List.setIfInBounds_toArray, List.set_cons_zero, List.set_cons_succ]
            refine wpAnyH_ready (rs := [3]) (by kernel_rfl) (by simp) ?_
            refine AllReadyH.cons rfl (fun K hK => ?_) AllReadyH.nil
            go_simp
            refine HQ.out.mono ?_
            rintro r0 w4 ⟨rfl, hrc, hkc⟩
            exact ⟨rfl, hmk hkc⟩
      · have hq := stake_none g n c p 1 A l wr hr hn (by omega) (by omega)
        have HN : Hid (getDiff (bitsOf l) pos = none) := by
          have := HO.out
          rw [show 4 - k = (4 - (k + 1)) + 1 by omega] at this
          rw [onesF_none (p := p) (List.getElem?_eq_none (by rw [HLEN.out]; omega))] at this
          show _ = _
          unfold getDiff
          rw [this]; rfl
        go_wp2_with fail
        refine hq.mono ?_
        rintro e w2 ⟨rfl, hr2, hk2⟩
        have HR : Hid (SgetPost w g n c A l (getDiff (bitsOf l) pos) (gaveUpS 5) w2) :=
          ⟨hkp.trans hk2 (fun _ _ h => h), fun x p h => (by rw [HN.out] at h; cases h), fun _ => rfl⟩
        clear hq hr hkp hr2 hk2
        simp only [gaveUpS]
        go_wp2_with fail
        exact ⟨rfl, HR.out⟩
    · have HT : Hid (onesF (bitsOf l) 4 pos = some (k, p)) := by
        have := HO.out
        rw [show 4 - k = 0 by omega] at this
        show _ = _
        rw [this]
        simp only [onesF, Option.map_some, Nat.zero_add]
      have hidx := W20_index (k := k) hk
      go_wp2_with (go_at_call 66; refine (widths_any _).mono ?_; rintro e w' ⟨rfl, rfl⟩)
      obtain ⟨w3, hw3⟩ : ∃ w3, w3 = (wr.alloc (.cells W20 112)).alloc (.cells #[.int .i64 (k : Int), .int .i64 ((wid k : Nat) : Int), .int .i64 (low k), .int .i64 (high k)] 111) := ⟨_, rfl⟩
      rw [← hw3]
      have hr3 : Rdr w3 g A n c l (p) := by rw [hw3]; exact (hr.alloc _).alloc _
      have hk3 : Kp (fun x => x = g) w w3 := by rw [hw3]; exact (hkp.alloc _).alloc _
      have ha3 : Arr w3 (wr.heap.size + 1) 111 #[.int .i64 (k : Int), .int .i64 ((wid k : Nat) : Int), .int .i64 (low k), .int .i64 (high k)] := by
        have := Arr.new (wr.alloc (.cells W20 112)) 111 #[.int .i64 (k : Int), .int .i64 ((wid k : Nat) : Int), .int .i64 (low k), .int .i64 (high k)]
        rw [hw3]; simpa using this
      have hgx : g < wr.heap.size := hr.arr.lt
      have d1 := ha3.at_ (i := 1) rfl
      have d2 := ha3.at_ (i := 2) rfl
      have hwid := wid_le k
      clear hw3 hr hkp hidx
      by_cases hfit : p + wid k ≤ 8 * n
      · have hq := stake_some g n c (p) (wid k) A l w3.drew ⟨hr3.arr, hr3.rd, hr3.at_⟩ hn hwid hfit HB.out
        have hv : Hid (getDiff (bitsOf l) pos = some (wrap64 (wrap64 ((natOf (((bitsOf l).drop (p)).take (wid k)) : Nat) : Int) + low k), p + wid k)) := by
          show _ = _
          unfold getDiff getAt
          rw [HT.out]
          simp only [Option.bind_some]
          rw [if_pos (by rw [HLEN.out]; exact hfit)]
          rfl
        obtain ⟨v, hv2⟩ : ∃ v, v = wrap64 ((natOf (((bitsOf l).drop (p)).take (wid k)) : Nat) : Int) := ⟨_, rfl⟩
        rw [← hv2] at hq hv
        have hkeep : ∀ {w' : World}, Kp (fun x => x = g) w3.drew w' → ∀ i, w'.cell? ⟨wr.heap.size + 1, i, none⟩ = w3.cell? ⟨wr.heap.size + 1, i, none⟩ := fun hk i =>
          World.cell?_of_block (w := w3) (hk.block (wr.heap.size + 1) ha3.lt (by omega))
        clear hv2
        have HQ := Lib.hid hq
        clear hq
        go_region_held3 (fun w' => w'.cell? ⟨wr.heap.size + 1, 1, none⟩ = some (.int .i64 ((wid k : Nat) : Int)) ∧ w'.cell? ⟨wr.heap.size + 1, 2, none⟩ = some (.int .i64 (low k))) (first | go_keep | exact ⟨(hkeep hkc 1).trans d1, (hkeep hkc 2).trans d2⟩) ((go_at_call 46; refine HQ.out.mono ?_; rintro r0 w4 ⟨rfl, hrc, hkc⟩))
        have HR : Hid (SgetPost w g n c A l (getDiff (bitsOf l) pos) (.returned (.int .i64 (IntKind.i64.wrap (v + low k)))) w4) := by
          refine ⟨(hk3.drew).trans hkc (fun _ _ h => h), fun x y hxy => ?_, fun h => ?_⟩
          · rw [hv.out] at hxy
            simp only [Option.some.injEq, Prod.mk.injEq] at hxy
            obtain ⟨rfl, rfl⟩ := hxy
            exact ⟨by rw [IntWalk.i64_left], hrc⟩
          · rw [hv.out] at h; cases h
        clear hrc hkc
        go_wp2_with fail
        go_ret
        exact HR.out
      · have hq := stake_none g n c (p) (wid k) A l w3.drew ⟨hr3.arr, hr3.rd, hr3.at_⟩ hn hwid (by omega)
        have hv : Hid (getDiff (bitsOf l) pos = none) := by
          show _ = _
          unfold getDiff getAt
          rw [HT.out]
          simp only [Option.bind_some]
          rw [if_neg (by rw [HLEN.out]; exact hfit)]
          rfl
        have HQ := Lib.hid hq
        clear hq
        have hmk : ∀ {w' : World}, Kp (fun x => x = g) w3.drew w' → SgetPost w g n c A l (getDiff (bitsOf l) pos) (.panicked [{ v := .iface 74 (.agg #[.int .i64 5]), recovered := false }]) w' := fun hk =>
          ⟨(hk3.drew).trans hk (fun _ _ h => h), fun x p h => (by rw [hv.out] at h; cases h), fun _ => rfl⟩
        refine wp_region_held_drew (S := fun w' => w'.cell? ⟨wr.heap.size + 1, 1, none⟩ = some (.int .i64 ((wid k : Nat) : Int)) ∧ w'.cell? ⟨wr.heap.size + 1, 2, none⟩ = some (.int .i64 (low k))) (by kernel_rfl) ⟨d1, d2⟩ (fun hHeld => ?_)
        refine wpAnyH_take (i := 0) (v := ?vb0) rfl (by kernel_rfl) (by kernel_rfl) (by kernel_rfl) (fun _ _ _ h => h) (Or.inl ⟨by rfl, ?hb0⟩) (by assumption) ?rb0
        case hb0 =>
          intro w5 hSw
          obtain ⟨s1, s2⟩ := hSw
          go_simp
          try with_reducible rfl
        simp only [Act.put, List.setIfInBounds_toArray, List.set_cons_zero, List.set_cons_succ]
        refine wpAnyH_take (i := 1) (v := ?vb1) rfl (by kernel_rfl) (by kernel_rfl) (by kernel_rfl) (fun _ _ _ h => h) (Or.inl ⟨by rfl, ?hb1⟩) (by assumption) ?rb1
        case hb1 =>
          intro w5 hSw
          obtain ⟨s1, s2⟩ := hSw
          go_simp
          try with_reducible rfl
        simp only [Act.put, List.setIfInBounds_toArray, List.set_cons_zero, List.set_cons_succ]
        refine wpAnyH_take (i := 2) (v := ?vb2) rfl (by kernel_rfl) (by kernel_rfl) (by kernel_rfl) (fun _ _ _ h => h) (Or.inl ⟨by rfl, ?hb2⟩) (by assumption) ?rb2
        case hb2 =>
          intro w5 hSw
          obtain ⟨s1, s2⟩ := hSw
          go_simp
          try with_reducible rfl
        simp only [Act.put, List.setIfInBounds_toArray, List.set_cons_zero, List.set_cons_succ]
        refine wpAnyH_take (i := 4) (v := ?vb4) rfl (by kernel_rfl) (by kernel_rfl) (by kernel_rfl) (fun _ _ _ h => h) (Or.inl ⟨by rfl, ?hb4⟩) (by assumption) ?rb4
        case hb4 =>
          intro w5 hSw
          obtain ⟨s1, s2⟩ := hSw
          go_simp
          try with_reducible rfl
        simp only [Act.put, List.setIfInBounds_toArray, List.set_cons_zero, List.set_cons_succ]
        refine wpAnyH_take (i := 5) (v := ?vb5) rfl (by kernel_rfl) (by kernel_rfl) (by kernel_rfl) (fun _ _ _ h => h) (Or.inl ⟨by rfl, ?hb5⟩) (by assumption) ?rb5
        case hb5 =>
          intro w5 hSw
          obtain ⟨s1, s2⟩ := hSw
          go_simp
          try with_reducible rfl
        simp only [Act.put, List.setIfInBounds_toArray, List.set_cons_zero, List.set_cons_succ]
        refine wpAnyH_ready (rs := [3]) (by kernel_rfl) (by simp) ?_
        refine AllReadyH.cons rfl (fun K hK => ?_) AllReadyH.nil
        go_simp
        refine HQ.out.mono ?_
        rintro r0 w4 ⟨rfl, hrc, hkc⟩
        exact ⟨rfl, hmk hkc⟩
end Go.Proofs.Ytnbamngancchmaa
