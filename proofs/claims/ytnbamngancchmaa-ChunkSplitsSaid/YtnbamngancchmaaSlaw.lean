/- chunk.Split splits all samples, in order, into lists of 120 and what is left, each in memory of its own: the statement ChunkSplits, for every input. No conditions. -/
import Derived.Test.YtnbamngancchmaaChunks
import Derived.Test.YtnbamngancchmaaSames
import Derived.Test.YtnbamngancchmaaOpenS
namespace Go.Proofs.Ytnbamngancchmaa.chunkSplits
open Go.ChangeShapes Go.WideShapes Go.ChangeAt Go.RowKit PB

/-- A store into an owned row, whatever its elements' size. -/
theorem own_setN {w : World} {base r cap sz : Nat} {e : TypeId} {n : Nat} {xs : List Value} (h : w.ownsRow base e sz (.slice (some ⟨r, 0, none⟩) n cap) n xs) (i : Nat) (u : Value) : (w.setCell ⟨r, i, none⟩ u).ownsRow base e sz (.slice (some ⟨r, 0, none⟩) n cap) n (xs.set i u) := by
  refine ⟨by rw [List.length_set]; exact h.1, ?_⟩
  rcases h.2 with ⟨h0, _⟩ | ⟨g', cap', cur, hv, hb, hgg, r1, r2, r3, r4⟩
  · cases h0
  · injection hv with hv hv1 hv2
    injection hv with hv
    injection hv with hv
    subst hv; subst hv2
    refine .inr ⟨r, cap, cur.setIfInBounds i u, rfl, hb, (Arr.set hgg i u), r1, r2, by simpa using r3, ?_⟩
    rw [Array.toList_setIfInBounds, ← r4, List.take_set]

theorem own_cellN {w : World} {base r cap sz : Nat} {e : TypeId} {n : Nat} {xs : List Value} (h : w.ownsRow base e sz (.slice (some ⟨r, 0, none⟩) n cap) n xs) {i : Nat} {u : Value} (hu : xs[i]? = some u) : w.cell? ⟨r, i, none⟩ = some u := by
  have := h.cells (g := r) rfl i u hu
  have e : (⟨r, 0, none⟩ : Addr).add i = ⟨r, i, none⟩ := by unfold Addr.add; split <;> simp_all
  rwa [e] at this

/-- The rows of a from the i-th on, as Split has made them, below block S. -/
structure Fr (W : World) (base S i : Nat) (v : Value) (k : Nat) (vs : List Value) (P : Nat → List (Int × Int)) : Prop where
  out : W.ownsRow base 38 1 v k vs
  inn : ∀ j, i ≤ j → j < k → ∃ r cap, vs[j]? = some (.slice (some ⟨r, 0, none⟩) (P j).length cap) ∧ r < S ∧ W.ownsRow base 43 2 (.slice (some ⟨r, 0, none⟩) (P j).length cap) (P j).length (sc (P j))
  rs : ∀ x, v.ownBlock = some x → x < S
  dis : ∀ a b ua ub x, i ≤ a → i ≤ b → a < k → b < k → a ≠ b → vs[a]? = some ua → vs[b]? = some ub → ua.ownBlock = some x → ub.ownBlock ≠ some x

theorem Fr.of {W : World} {base : Nat} {v : Value} {k : Nat} {vs : List Value} {P : Nat → List (Int × Int)} (h : RwV W base v k vs P) (hp : ∀ j, j < k → 0 < (P j).length) : Fr W base W.heap.size 0 v k vs P := by
  refine ⟨h.out, fun j _ hj => ?_, fun x hx => (h.out.lt x hx).2, fun a b ua ub x _ _ ha hb hab h1 h2 h3 => h.dis a b ua ub x ha hb hab h1 h2 h3⟩
  obtain ⟨u, hu, ho⟩ := h.inn j hj
  obtain ⟨r, cap, cur, rfl, _⟩ := own_form ho (hp j hj)
  exact ⟨r, cap, hu, (ho.lt r rfl).2, ho⟩

theorem Fr.below {W W' : World} {base S i : Nat} {v : Value} {k : Nat} {vs : List Value} {P : Nat → List (Int × Int)} (h : Fr W base S i v k vs P) (hb : Below W.heap.size W W') : Fr W' base S i v k vs P :=
  ⟨own_kp h.out (Kp.none_of_below (S := fun _ => False) hb) (fun _ _ h => h), fun j h1 h2 => by
    obtain ⟨r, cap, a, b, c⟩ := h.inn j h1 h2
    exact ⟨r, cap, a, b, own_kp c (Kp.none_of_below (S := fun _ => False) hb) (fun _ _ h => h)⟩, h.rs, h.dis⟩

/-- The k-th row is no more asked of; what turned lay in its block and in the outer one. -/
theorem Fr.next {W W' : World} {base S N k r m cap : Nat} {v u' : Value} {vs : List Value} {P : Nat → List (Int × Int)} (h : Fr W base S k v N vs P) (hk : k < N) (hu : vs[k]? = some (.slice (some ⟨r, 0, none⟩) m cap))
    (hkp : Kp (fun x => x = r ∨ v.ownBlock = some x) W W') (hout : W'.ownsRow base 38 1 v N (vs.set k u')) : Fr W' base S (k + 1) v N (vs.set k u') P := by
  have hg : ∀ j, k + 1 ≤ j → (vs.set k u')[j]? = vs[j]? := fun j hj => List.getElem?_set_ne (by omega)
  refine ⟨hout, fun j h1 h2 => ?_, h.rs, fun a b ua ub x h1 h2 h3 h4 h5 h6 h7 => ?_⟩
  · obtain ⟨rj, cj, ha, hs, ho⟩ := h.inn j (by omega) h2
    refine ⟨rj, cj, by rw [hg j h1]; exact ha, hs, own_kp ho hkp fun x hx hs => ?_⟩
    rcases hs with rfl | hs
    · exact h.dis k j _ _ x (Nat.le_refl _) (by omega) hk h2 (by omega) hu ha rfl hx
    · exact own_apart ho h.out (by decide) x hx hs
  · rw [hg a h1] at h6
    rw [hg b h2] at h7
    exact h.dis a b ua ub x (by omega) (by omega) h3 h4 h5 h6 h7

/-- An append to a row of samples leaves the outer row alone. -/
theorem ap_step {W w4 : World} {X : Obj} {base ro N ca r m cap g c4 n4 : Nat} {vs xs ys : List Value} (hout : W.ownsRow base 38 1 (.slice (some ⟨ro, 0, none⟩) N ca) N vs) (hown : W.ownsRow base 43 2 (.slice (some ⟨r, 0, none⟩) m cap) m xs)
    (hown4 : w4.ownsRow base 43 2 (.slice (some ⟨g, 0, none⟩) n4 c4) n4 ys) (hg : (W.alloc X).grownBy w4 (some r)) (hat : (some g : Option Nat) = some r ∨ (some g : Option Nat) = some (W.alloc X).heap.size) :
    w4.ownsRow base 38 1 (.slice (some ⟨ro, 0, none⟩) N ca) N vs ∧ Kp (fun x => x = r) W w4 ∧ (g = r ∨ W.heap.size ≤ g) ∧ g ≠ ro ∧ ro < W.heap.size := by
  have hk : Kp (fun x => x = r) W w4 := ((Kp.refl _ W).alloc _).grown hg (fun x _ h => by injection h with h; exact h.symm)
  have h1 : w4.ownsRow base 38 1 (.slice (some ⟨ro, 0, none⟩) N ca) N vs := own_kp hout hk fun x hx hv => by
    subst hv
    exact own_apart hout hown (by decide) x hx rfl
  refine ⟨h1, hk, ?_, fun e => ?_, (hout.lt ro rfl).2⟩
  · rcases hat with e | e
    · injection e with e; exact .inl e
    · injection e with e; right; rw [e]; simp
  · subst e
    exact own_apart h1 hown4 (by decide) g rfl rfl

theorem pc_pos {l : List (Int × Int)} {n j : Nat} (hl : l.length = n) (hj : j < np n) : 0 < (pc l j).length := by
  have := np_lt hj
  rw [pc_len]; omega

set_option maxRecDepth 100000 in
set_option maxHeartbeats 2000000 in
theorem walk (A : Option Addr) (n c : Nat) (l : List (Int × Int)) (w : World) (h1 : Rs2 w w.heap.size A n l) (hnc : n ≤ c) (hcm : c ≤ maxLen) :
    Calls Try.prog 9 #[.slice A n c] w fun e w' => e = .returned (.bool true) ∧ Below w.heap.size w w' := by
  obtain ⟨i0, hi, hz0, hz1, hz2⟩ := info_parts Try.info43
  by_cases hin : n ≤ 2000
  · go_enter Try.func9, Try.ntmps9
    go_wp2_with fail
    refine (alive25 w).mono ?_
    rintro e w1 ⟨rfl, hb1⟩
    have r1 := h1.below hb1
    have hs1 := hb1.size
    have hq1 := split_any A n c w.heap.size l w1 r1 hs1 (by omega) hnc hcm
    go_wp2_with fail
    refine hq1.mono ?_
    rintro e w2 ⟨va, vsa, rfl, ra, hb2⟩
    have hs2 := hb2.size
    have r2 := r1.below (hb2.mono hs1)
    have hq2 := chunks_any A n c w.heap.size l w2 r2 (by omega) (by omega) hnc
    have hfa := Fr.of ra (fun j hj => pc_pos h1.1 hj)
    obtain ⟨Aa, ca, rfl, _⟩ := Rd.of_own ra.out
    clear hq1 ra
    go_wp2_with fail
    refine hq2.mono ?_
    rintro e w3 ⟨vw, vsw, rfl, rw3, hb3⟩
    obtain ⟨Aw, cw, rfl, _⟩ := Rd.of_own rw3.out
    have hs3 := hb3.size
    have hfa3 : Fr w3 w1.heap.size w2.heap.size 0 (.slice Aa (np n) ca) (np n) vsa (pc l) := hfa.below hb3
    have hbw : Below w.heap.size w w3 := (hb1.trans (hb2.mono hs1)).trans (hb3.mono (by omega))
    obtain ⟨N, hN⟩ : ∃ N, N = np n := ⟨_, rfl⟩
    have hN2 : N ≤ 100 := by unfold np at hN; omega
    rw [← hN] at hfa3 rw3 ⊢
    have HN := Lib.hid hN
    clear hq2 hfa hN
    go_wp2_with fail
    go_loopw [6, 7] (fun i _ wr => ∃ (k : Nat) (vs : List Value), k ≤ N ∧ i = .int .i64 k ∧ Fr wr w1.heap.size w2.heap.size k (.slice Aa N ca) N vs (pc l) ∧ RwV wr w2.heap.size (.slice Aw N cw) N vsw (pc l) ∧ Below w.heap.size w wr ∧ w3.heap.size ≤ wr.heap.size) (fun i _ _ => N - (intOf i).toNat)
    case atStart => exact ⟨0, vsa, Nat.zero_le _, rfl, hfa3, rw3, hbw, Nat.le_refl _⟩
    case round =>
      obtain ⟨k, vs, hk, rfl, hf, hw, hb, hsw⟩ := hrel
      clear hfa3 rw3
      by_cases hlt : k < N
      · obtain ⟨ro, cap0, cur0, hv0, _⟩ := own_form hf.out (by omega)
        injection hv0 with hv0 _ hv0c
        subst hv0 hv0c
        obtain ⟨rw0, cap1, cur1, hv1, _⟩ := own_form hw.out (by omega)
        injection hv1 with hv1 _ hv1c
        subst hv1 hv1c
        obtain ⟨r, cap, hu, hrS, hown⟩ := hf.inn k (Nat.le_refl _) hlt
        obtain ⟨u2, hu2, hown2⟩ := hw.inn k hlt
        obtain ⟨Au, cu, rfl, hru, _⟩ := Rs2.of_own hown2
        obtain ⟨Ar, cr, hvr, hrr, _⟩ := Rs2.of_own hown
        injection hvr with hvr1 _ hvr2
        subst hvr1 hvr2
        have hx1 := own_cell hf.out hu
        have hx2 := own_cell hw.out hu2
        obtain ⟨m, hm⟩ : ∃ m, m = (pc l k).length := ⟨_, rfl⟩
        have hm2 : m ≤ 120 := by rw [hm, pc_len]; omega
        rw [← hm] at hx1 hx2 hown hown2 hru hrr hu hu2
        have hsm := fun W => sameS_any (some ⟨r, 0, none⟩) Au m cap W.heap.size cu W.heap.size (pc l k) W
        have HF := Lib.hid (And.intro hf hw)
        have HM := Lib.hid hm
        clear hm hf hw
        go_wp2_with fail
        go_quiet ((go_at_call 28; exact Calls.quiet_of (sameS_any _ _ m cap _ cu _ (pc l k) _ hrr hru (by omega))))
        obtain ⟨W0, hW0⟩ : ∃ W0, W0 = wr.drewN nq := ⟨_, rfl⟩
        have hown0 : W0.ownsRow w1.heap.size 43 2 (.slice (some ⟨r, 0, none⟩) m cap) m (sc (pc l k)) := by rw [hW0]; exact hown
        have hout0 : W0.ownsRow w1.heap.size 38 1 (.slice (some ⟨ro, 0, none⟩) N ca) N vs := by rw [hW0]; exact HF.out.1.out
        have hk0 : Kp (fun _ => False) wr W0 := by rw [hW0]; exact (Kp.refl _ _).drewN nq
        have hx0 := own_cell hout0 hu
        have hs0 := hk0.size
        rw [← hW0]
        clear hrr hru hx1 hx2 hown hown2 hW0 hsm
        go_wp2_with (at_builtin; refine wpList_append_own_at _ rfl (.tmp 47) (.tmp 49) 38 rfl w1.heap.size 43 i0 _ 2 16 Try.underlying38 hi hz0 hz1 hz2 rfl (by decide) _ m (sc (pc l k)) rfl (hown0.alloc _) ⟨W0.heap.size, 0, none⟩ 1 1 [.int .i64 9, .int .i64 0] rfl rfl (two_cells W0 _ _ 43) (by simp [Value.oneCell']) (by unfold maxLen; omega) (by omega) (by simp; omega) ?_; intro v2 w4 hown4 hg4 _ hat4; obtain ⟨g, c4, rfl⟩ := ownsRow_succ hown4; obtain ⟨hout4, hk4, hg5, hg6, hro4⟩ := ap_step hout0 hown0 hown4 hg4 hat4; have hx4 := own_cell hout4 hu; have hf4 := own_frozen hout4 k)
        have hown5 : (w4.setCell ⟨ro, k, none⟩ (.slice (some ⟨g, 0, none⟩) (m + 1) c4)).ownsRow w1.heap.size 43 2 (.slice (some ⟨g, 0, none⟩) (m + 1) c4) (m + 1) (sc (pc l k) ++ [.int .i64 9, .int .i64 0]) := own_far hown4 (by intro e; injection e with e; exact hg6 e) _
        have hk5 : Kp (fun x => x = r ∨ x = ro) W0 (w4.setCell ⟨ro, k, none⟩ (.slice (some ⟨g, 0, none⟩) (m + 1) c4)) := (hk4.mono fun x _ h => .inl h).setCell (p := ⟨ro, k, none⟩) (.inl (.inr rfl)) _
        obtain ⟨v2, hv2⟩ : ∃ v2 : Value, v2 = .slice (some ⟨g, 0, none⟩) (m + 1) c4 := ⟨_, rfl⟩
        have hvk : (vs.set k v2)[k]? = some (.slice (some ⟨g, 0, none⟩) (m + 1) c4) := by
          rw [hv2, List.getElem?_set_self (List.getElem?_eq_some_iff.1 hu).1]
        have hout5 : (w4.setCell ⟨ro, k, none⟩ (.slice (some ⟨g, 0, none⟩) (m + 1) c4)).ownsRow w1.heap.size 38 1 (.slice (some ⟨ro, 0, none⟩) N ca) N (vs.set k v2) := by rw [hv2]; exact own_set hout4 k _
        clear hv2
        go_loopw [7] (fun i wb => ∃ (q : Nat) (xs : List Value), q ≤ m + 1 ∧ i = .int .i64 q ∧ wb.ownsRow w1.heap.size 38 1 (.slice (some ⟨ro, 0, none⟩) N ca) N (vs.set k v2) ∧ wb.ownsRow w1.heap.size 43 2 (.slice (some ⟨g, 0, none⟩) (m + 1) c4) (m + 1) xs ∧ Kp (fun x => x = r ∨ x = ro) W0 wb) (fun i _ => m + 1 - (intOf i).toNat)
        case atStart => exact ⟨0, _, Nat.zero_le _, rfl, hout5, hown5, hk5⟩
        case round =>
          obtain ⟨q, xs, hq, rfl, ho, hg7, hkp⟩ := hrel
          clear hout5 hown5 hk5 hx4 hf4 hx0
          have hx5 := own_cell ho hvk
          by_cases hlq : q < m + 1
          · have hxl : xs.length = (m + 1) * 2 := hg7.1
            have hc0 := own_cellN hg7 (List.getElem?_eq_getElem (l := xs) (i := q * 2) (by omega))
            have hc1 := own_cellN hg7 (List.getElem?_eq_getElem (l := xs) (i := q * 2 + 1) (by omega))
            have hf0 := own_frozen hg7 (q * 2)
            have hf1 := own_frozen hg7 (q * 2 + 1)
            go_wp2_with fail
            go_roundw
            case rel =>
              refine ⟨q + 1, _, by omega, by go_num, own_far (own_far ho (by intro e; injection e with e; exact hg6 e.symm) _) (by intro e; injection e with e; exact hg6 e.symm) _, own_setN (own_setN hg7 _ _) _ _, ?_⟩
              have hS : (g = r ∨ g = ro) ∨ W0.heap.size ≤ g := hg5.imp Or.inl id
              exact (hkp.setCell (p := ⟨g, q * 2, none⟩) hS _).setCell (p := ⟨g, q * 2 + 1, none⟩) hS _
            case measure => simp [intOf]; omega
          · obtain rfl : q = m + 1 := by omega
            have hkp2 := (hk0.mono (T := fun x => x = r ∨ x = ro) fun x _ h => h.elim).trans hkp (fun x _ h => h)
            have hkp3 := hkp2.mono (T := fun x => x = r ∨ (Value.slice (some ⟨ro, 0, none⟩) N ca).ownBlock = some x) (fun x _ h => h.imp id fun h => by rw [h]; rfl)
            have hfn := HF.out.1.next hlt hu hkp3 ho
            have hrob := (HF.out.1.out.lt ro rfl).1
            have hros := HF.out.1.rs ro rfl
            have hrb := (hown0.lt r rfl).1
            have hwn := HF.out.2.kp hkp2 (by rintro x hx _ _ _ _ _ (rfl | rfl) <;> omega)
            have hbn := hb.trans (hkp2.below (by omega) (by rintro x hx (rfl | rfl) <;> omega))
            have hsz := hkp2.size
            have HE := Lib.hid (And.intro hfn (And.intro hwn hbn))
            clear hfn hwn hbn hkp2 hkp3 hkp ho hg7
            go_wp2_with fail
            go_roundw
            case rel => exact ⟨k + 1, _, by omega, by go_num, HE.out.1, HE.out.2.1, HE.out.2.2, by omega⟩
            case measure => simp [intOf]; omega
      · obtain rfl : k = N := by omega
        have hnn := HN.out
        unfold np at hnn
        by_cases hn0 : n = 0
        · subst hn0
          go_wp2_with fail
          go_ret
          exact ⟨rfl, hb⟩
        · go_wp2_with fail
          go_ret
          exact ⟨rfl, hb⟩
  · go_enter Try.func9, Try.ntmps9
    go_wp2_with fail
    refine (alive25 w).mono ?_
    rintro e w1 ⟨rfl, hb1⟩
    go_wp2_with fail
    go_ret
    exact ⟨rfl, hb1⟩

set_option maxRecDepth 100000 in
theorem lifted (os : Os) (started : os.Started) (H : Type) (enc : TypeId × Value → H) :
    ReturnsInHanded {} Try.checked os 9 .any (Rows.chunkSplitsSpec.pre6 enc Try.prog Try.f9 Rows.chunkSplitsRow.domain false) (Rows.chunkSplitsSpec.post enc Try.prog Try.f9 false true false false) := by
  refine returnsInHanded_of_change (C := Try.checked) Try.own started (by kernel_rfl) Try.func9
    (ChangeSpec.witness6 (enc := enc) (C := Try.checked) false ⟨#[], #[.slice none 0 0], []⟩ 8 (by kernel_rfl) (by kernel_rfl) (by kernel_rfl) (by kernel_rfl)) ?_
  intro W base args ds gs before hval0 hW hcnd _
  have hval : ∀ (j : Nat) t v, Try.f9.params[j]? = some t → args[j]? = some v → Value.okWide Try.prog W .any base t v := hval0
  have hW' := hW
  obtain ⟨p, q, hA0, hV, rfl, _, _⟩ := hW
  have hA : DataW.TrodAll enc Try.prog W 0 (fun _ => true) true Try.f9.params.toList args.toList ds p := hA0
  rw [Try.params9] at hA hval
  obtain ⟨v0, vs0, d0, ds0, p0, q0, hargs, rfl, rfl, h0, r0⟩ := trodAll_cons hA
  obtain ⟨rfl, rfl, rfl⟩ := trodAll_nil r0
  obtain rfl : args = #[v0] := by cases args; simp_all
  obtain ⟨rfl, rfl⟩ := trodVars_none hV
  have hlt : ∀ x ∈ p0 ++ [], x.block < W.heap.size := fun x hx => by simpa using hW'.lt x (by simpa using hx)
  obtain ⟨A0, n0, c0, l0, rfl, rd0, hnc0, hcm0, _⟩ := open_rs Try.underlying38 (hval 0 38 v0 rfl rfl) h0 (fun x hx => hlt x (by simp [hx]))
  refine (walk A0 n0 c0 l0 W rd0 hnc0 hcm0).mono fun e W' ⟨he, hb⟩ => ?_
  subst he
  exact ⟨_, rfl, law_post Try.laidOut (by kernel_rfl) rfl rfl Try.underlying4 hW' ⟨rfl, rfl, rfl⟩ hb⟩

theorem over : Rows.chunkSplitsRow.holds Try.pinned (OpenSpec.ofChange Rows.chunkSplitsSpec) :=
  OpenClaim.holds_of_wide 9 Try.f9 rfl rfl rfl rfl rfl rfl rfl ⟨rfl, rfl, rfl, rfl, rfl⟩ rfl rfl rfl rfl rfl (by kernel_rfl) Try.func9 (by kernel_rfl)
    (of_decide_eq_true (by kernel_rfl)) (by unfold Func.isWrapper; first | (rw [if_pos (by decide +kernel)]; kernel_rfl) | (rw [if_neg (by decide +kernel)]; exact ⟨rfl, rfl⟩))
    (fun os started H enc _ => lifted os started H enc)

/-- ████ THE STATEMENT ████ -/
theorem proved : Rows.ChunkSplitsSaid :=
  over
end Go.Proofs.Ytnbamngancchmaa.chunkSplits
