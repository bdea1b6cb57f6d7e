/- What stays of a file, walked. Conditions: files of at most 10^9 bytes. -/
import Derived.Test.YtedjfbkfaioihaaKept
namespace Go.Proofs.Ytedjfbkfaioihaa
open Go.RowKit Go.Shelf Go.Maps

/-- While the bytes are turned. -/
def Tn (w : World) (F g e s : Nat) (c : Nat) (p : List Nat) (lo j : Nat) (wr : World) : Prop :=
  Arr wr F 75 #[.slice (some ⟨g, 0, none⟩) e e, .int .i64 (s : Nat)] ∧ (∃ cur, Arr wr g 5 cur ∧ c ≤ cur.size ∧ cur.toList.take e = (XL p lo j).map bv) ∧ Kp (fun x => x = F ∨ x = g) w wr
theorem Tn.step {w wr : World} {F g e s c : Nat} {p : List Nat} {lo j y : Nat} (h : Tn w F g e s c p lo j wr) (hl : lo ≤ j) (hy : p[j]? = some y) (hFg : F ≠ g) :
    Tn w F g e s c p lo (j + 1) (wr.setCell ⟨g, j, none⟩ (bv (y ^^^ 165))) := by
  obtain ⟨h1, ⟨cur, h2, h3, h4⟩, h5⟩ := h
  refine ⟨h1.far (by simp; omega) _, ⟨_, h2.set j _, by simpa using h3, ?_⟩, h5.setCell (p := ⟨g, j, none⟩) (.inl (.inr rfl)) _⟩
  rw [Array.toList_setIfInBounds, List.take_set, h4, XL_step hl hy, List.map_set]
theorem Tn.at_ {w wr : World} {F g e s c : Nat} {p : List Nat} {lo j y : Nat} (h : Tn w F g e s c p lo j wr) (hpl : p.length = e) (hy : p[j]? = some y) : wr.cell? ⟨g, j, none⟩ = some (bv y) ∧ wr.frozen? ⟨g, j, none⟩ = false := by
  obtain ⟨h1, ⟨cur, h2, h3, h4⟩, h5⟩ := h
  refine ⟨h2.at_ ?_, h2.frozen _⟩
  have hj := (List.getElem?_eq_some_iff.1 hy).1
  have h6 : (cur.toList.take e)[j]? = some (bv y) := by rw [h4, List.getElem?_map, XL_at hy]; rfl
  rw [List.getElem?_take_of_lt (by omega), Array.getElem?_toList] at h6
  exact h6
def KeptPost (w : World) (φ : Nat → Prop) (q : Nat × Value) (x : Fl) (k : Int) (g : Bool) (e : Ending) (w' : World) : Prop :=
  e = .returned (.tuple #[]) ∧ ∃ v', FAt w' φ (q.1, v') ⟨keptL x k g, (keptL x k g).length⟩ ∧ v'.ownBlock = q.2.ownBlock ∧ Kp (fun y => y = q.1 ∨ q.2.ownBlock = some y) w w'
theorem kept_end {w wr : World} {φ : Nat → Prop} {F g s : Nat} {c c0 : Nat} {x : Fl} {k : Int} {gb : Bool} {p : List Nat} {lo j : Nat} (hF : φ F) (hg : φ g) (hs : x.s ≤ x.b.length) (h : Tn w F g (keptN x k) s c p lo j wr) (hec : keptN x k ≤ c) (hcm : c ≤ maxLen) (hFg : F ≠ g) (hp : XL p lo j = keptL x k gb) :
    KeptPost w φ (F, .slice (some ⟨g, 0, none⟩) x.b.length c0) x k gb (.returned (.tuple #[])) (wr.setCell ⟨F, 1, none⟩ (.int .i64 (keptN x k : Nat))) := by
  obtain ⟨h1, ⟨cur, h2, h3, h4⟩, h5⟩ := h
  have hlen := keptL_len (k := k) (g := gb) hs
  refine ⟨rfl, .slice (some ⟨g, 0, none⟩) (keptN x k) (keptN x k), ⟨?_, hF, ?_⟩, rfl, ?_⟩
  · show Arr _ F 75 #[_, .int .i64 ((keptL x k gb).length : Nat)]
    rw [hlen]
    exact h1.set 1 _
  · refine .inr ⟨g, keptN x k, cur, ?_, hg, h2.far (by simp; omega) _, ?_, by omega, by omega, ?_⟩
    · show _ = Value.slice _ (keptL x k gb).length _
      rw [hlen]
    · show (keptL x k gb).length ≤ _
      omega
    · show cur.toList.take (keptL x k gb).length = (keptL x k gb).map bv
      rw [hlen, h4, hp]
  · refine (h5.mono fun y _ hy => ?_).setCell (p := ⟨F, 1, none⟩) (.inl (.inl rfl)) _
    rcases hy with rfl | rfl
    · exact .inl rfl
    · exact .inr rfl

set_option maxRecDepth 100000 in
set_option maxHeartbeats 8000000 in
theorem kept62 (F : Nat) (qv : Value) (φ : Nat → Prop) (x : Fl) (k : Int) (gb : Bool) (w : World) (h : FAt w φ (F, qv) x) (hs : x.s < x.b.length) (hb : x.b.length ≤ 1000000000) (hlt : ∀ y ∈ x.b, y < 256) :
    Calls Try.prog 62 #[.pointer (some ⟨F, 0, none⟩), .int .i64 k, .bool gb] w (KeptPost w φ (F, qv) x k gb) := by
  obtain ⟨ha, hF, hbt⟩ := h
  rcases hbt with ⟨_, h0⟩ | ⟨g, c, cur, e0, hg, hga, hlc, hccs, hcm, htk⟩
  · rw [h0] at hs; simp at hs
  have e0' : qv = .slice (some ⟨g, 0, none⟩) x.b.length c := e0
  subst e0'
  have g0 : w.cell? ⟨F, 0, none⟩ = some (.slice (some ⟨g, 0, none⟩) x.b.length c) := ha.at_ rfl
  have g1 : w.cell? ⟨F, 1, none⟩ = some (.int .i64 (x.s : Nat)) := ha.at_ rfl
  have f0 := ha.frozen 0
  have f1 := ha.frozen 1
  have hFg : F ≠ g := fun e => by have h1 := ha.ty; have h2 := hga.ty; rw [e] at h1; rw [h1] at h2; cases h2
  have hkn := keptN_le (k := k) (Nat.le_of_lt hs)
  obtain ⟨e, he⟩ : ∃ e, e = keptN x k := ⟨_, rfl⟩
  have e1 : IntKind.i64.wrap ((x.b.length : Int) - (x.s : Int)) = (x.b.length : Int) - (x.s : Int) := IntWalk.i64_in _ (by omega)
  have e2 : IntKind.i64.wrap ((x.s : Int) + min (max 0 k) ((x.b.length : Int) - (x.s : Int))) = (e : Int) := by
    rw [he]; unfold keptN
    rw [IntWalk.i64_in _ (by omega)]
    omega
  have e2' : (x.s : Int) + min (max 0 k) ((x.b.length : Int) - (x.s : Int)) = (e : Int) := by
    rw [he]; unfold keptN
    omega
  rw [← he] at hkn
  have hT0 : ∀ nq lo, Tn w F g e x.s c (x.b.take e) lo lo ((w.drewN nq).setCell ⟨F, 0, none⟩ (.slice (some ⟨g, 0, none⟩) e e)) := by
    intro nq lo
    refine ⟨(ha.drewN nq).set 0 _, ⟨cur, (hga.drewN nq).far (by simp; omega) _, hccs, ?_⟩, ((Kp.refl (fun x => x = F ∨ x = g) w).drewN nq).setCell (p := ⟨F, 0, none⟩) (.inl (.inl rfl)) _⟩
    rw [XL_start]
    have := congrArg (List.take e) htk
    rw [List.take_take, Nat.min_eq_left hkn.2] at this
    rw [this, List.map_take]
  have HT0 := Lib.hid hT0
  have HE := Lib.hid he
  have HFG := Lib.hid (And.intro hF (And.intro hg (And.intro hlt hcm)))
  obtain ⟨s, hse⟩ : ∃ s, s = x.s := ⟨_, rfl⟩
  obtain ⟨ln, hln⟩ : ∃ ln, ln = x.b.length := ⟨_, rfl⟩
  have HS := Lib.hid (And.intro hse hln)
  rw [← hse, ← hln] at e1 e2 e2'
  rw [← hln] at g0 hb hlc
  rw [← hse] at g1
  rw [← hse, ← hln] at hs hkn
  have z1 : (0 : Int) ≤ (e : Int) := by omega
  have z2 : (e : Int) ≤ (c : Int) := by omega
  have z3 : e ≤ c := by omega
  have HEND : Hid (∀ wr lo j, Tn w F g e x.s c (x.b.take e) lo j wr → XL (x.b.take e) lo j = keptL x k gb → KeptPost w φ (F, .slice (some ⟨g, 0, none⟩) x.b.length c) x k gb (.returned (.tuple #[])) (wr.setCell ⟨F, 1, none⟩ (.int .i64 (e : Nat)))) := by
    refine Lib.hid fun wr lo j hT hX => ?_
    have hle : x.s ≤ x.b.length := by have := HS.out; omega
    have h1 := kept_end (c0 := c) (k := k) (gb := gb) hF hg hle (by rw [← he]; exact hT) (by rw [← he]; omega) hcm hFg hX
    rw [← he] at h1
    exact h1
  have HXL : Hid (∀ y ∈ x.b.take e, y < 256) := Lib.hid fun y hy => hlt y (List.mem_of_mem_take hy)
  have HPL : Hid ((x.b.take e).length = e) := Lib.hid (by rw [List.length_take]; have := HS.out; omega)
  by_cases hgs : gb = true ∧ s < e
  · obtain ⟨rfl, hse2⟩ := hgs
    have d1 : decide (s < e) = true := decide_eq_true hse2
    have hlo : max (x.s) ((e - 1) / 512 * 512) < e := by have := HS.out; omega
    have HKL : Hid (XL (x.b.take e) (max x.s ((e - 1) / 512 * 512)) e = keptL x k true) := by
      refine Lib.hid ?_
      have := keptL_yes (x := x) (k := k) (g := true) (by have := HS.out; omega) ⟨rfl, by rw [← he]; have := HS.out; omega⟩
      rw [← he] at this
      exact this.symm
    have hloi : max (s : Int) (((e : Int) - 1) / 512 * 512) = ((max x.s ((e - 1) / 512 * 512) : Nat) : Int) := by have := HS.out; omega
    obtain ⟨lo, hloe⟩ : ∃ lo, lo = max x.s ((e - 1) / 512 * 512) := ⟨_, rfl⟩
    rw [← hloe] at hlo HKL hloi
    obtain ⟨p, hp⟩ : ∃ p, p = x.b.take e := ⟨_, rfl⟩
    rw [← hp] at HT0 HEND HXL HPL HKL
    have z4 : (0 : Int) ≤ (e : Int) - 1 := by omega
    have z5 : (0 : Int) ≤ ((e : Int) - 1) / 512 := by omega
    have z6 : ((e : Int) - 1) / 512 * 512 ≤ 1000000000 := by omega
    have z7 : (0 : Int) ≤ ((e : Int) - 1) / 512 * 512 := by omega
    have he9 : e ≤ 1000000000 := by omega
    clear hT0 he hF hg hga hlt hccs htk hse hln hcm ha e0 hloe hp
    go_enter Try.func62, Try.ntmps62
    go_wp2_with fail
    go_quiet (fail)
    go_wp2_with fail
    go_loopw [8] (fun i wr => ∃ j : Nat, lo ≤ j ∧ j ≤ e ∧ i = .int .i64 j ∧ Hid (Tn w F g e x.s c p lo j wr)) (fun i _ => e - (intOf i).toNat)
    case atStart => exact ⟨lo, Nat.le_refl _, by omega, rfl, Lib.hid (HT0.out nq lo)⟩
    case round =>
      obtain ⟨j, hj1, hj2, rfl, HT⟩ := hrel
      by_cases hje : j < e
      · obtain ⟨y, hy⟩ : ∃ y, p[j]? = some y := ⟨_, List.getElem?_eq_getElem (by have := HPL.out; omega)⟩
        obtain ⟨q1, q2⟩ := HT.out.at_ HPL.out hy
        have hy256 := HXL.out y (List.mem_of_getElem? hy)
        have q0 : wr.cell? ⟨F, 0, none⟩ = some (.slice (some ⟨g, 0, none⟩) e e) := HT.out.1.at_ rfl
        have hx := xor165 y hy256
        unfold bv at q1
        have HN := Lib.hid (HT.out.step hj1 hy hFg)
        unfold bv at HN
        have y0 : (0 : Int) ≤ (j : Int) := by omega
        have y1 : (j : Int) < (e : Int) := by omega
        clear hy
        go_wp2_with fail
        go_roundw
        case rel => exact ⟨j + 1, by omega, by omega, by go_num, HN⟩
        case measure => simp [intOf]; omega
      · obtain rfl : j = e := by omega
        have q0 : wr.cell? ⟨F, 0, none⟩ = some (.slice (some ⟨g, 0, none⟩) j j) := HT.out.1.at_ rfl
        have q1 : wr.cell? ⟨F, 1, none⟩ = some (.int .i64 (x.s : Nat)) := HT.out.1.at_ rfl
        have q2 := HT.out.1.frozen 1
        have HF := Lib.hid (HEND.out wr lo j HT.out HKL.out)
        go_wp2_with fail
        go_end0
        exact HF.out
  · have HKN : Hid (keptL x k gb = x.b.take e) := by
      refine Lib.hid ?_
      rw [he]
      exact keptL_no fun h => hgs ⟨h.1, by rw [he]; have := HS.out; omega⟩
    have HFIN : Hid (∀ nq, KeptPost w φ (F, .slice (some ⟨g, 0, none⟩) x.b.length c) x k gb (.returned (.tuple #[])) (((w.drewN nq).setCell ⟨F, 0, none⟩ (.slice (some ⟨g, 0, none⟩) e e)).setCell ⟨F, 1, none⟩ (.int .i64 (e : Nat)))) :=
      Lib.hid fun nq => HEND.out _ 0 0 (HT0.out nq 0) (by rw [XL_start, HKN.out])
    clear hT0 he hF hg hga hlt hccs htk hse hln hcm ha e0 HEND HXL HPL HKN HT0
    cases gb
    · clear hgs
      go_enter Try.func62, Try.ntmps62
      go_wp2_with fail
      go_quiet (fail)
      go_wp2_with fail
      go_end0
      exact HFIN.out nq
    · have hns : ¬ s < e := fun h => hgs ⟨rfl, h⟩
      have d1 : decide (s < e) = false := decide_eq_false hns
      clear hgs hns
      go_enter Try.func62, Try.ntmps62
      go_wp2_with fail
      go_quiet (fail)
      go_wp2_with fail
      go_end0
      exact HFIN.out nq
end Go.Proofs.Ytedjfbkfaioihaa
