/- What stamps.Unpack answers: the times, or the error. Conditions: at most 10^9 bytes, each below 256. -/
import Derived.Test.YtnbamngancchmaaEqual
import Derived.Deep.RegionLaw
namespace Go.Proofs.Ytnbamngancchmaa
open Go.RowKit PB PS

theorem Try.info3 : (Try.prog.info? 3).map (fun i => (i.zero, i.size, i.bytes)) = some (some (.int .i64 0), 1, 8) := by kernel_rfl
def unpackE (b : List Nat) (m : Int) : Int := if 120 < m then 2 else if m < 0 then 1 else if (unpack b m.toNat).isSome then 0 else 5
def unpackL (b : List Nat) (m : Int) : List Int := if 120 < m then [] else if m < 0 then [] else (unpack b m.toNat).getD []
/-- What Unpack answers. -/
def UnpackPost (w : World) (b : List Nat) (m : Int) (r : Ending) (w' : World) : Prop :=
  ∃ v, r = .returned (.tuple #[v, .int .i64 (unpackE b m)]) ∧ w'.ownsRow w.heap.size 3 1 v (unpackL b m).length (ints (unpackL b m)) ∧ Below w.heap.size w w'

/-- What a round of Unpack does to memory: a number is appended to the list in its variable. -/
theorem ustep {w w2 w3 w4 : World} {H g n c p k m : Nat} {A : Option Addr} {l : List Nat} {v v' e : Value} {xs ys : List Value} (hrd : Rdr w2 g A n c l p) (hg : H + 2 ≤ g) (c1 : Arr w2 H 23 #[v]) (c2 : Arr w2 (H + 1) 25 #[e])
    (hown : w2.ownsRow (g + 1) 3 1 v k xs) (hw3 : Kp (fun _ => False) w2 w3) (hgrow : w3.grownBy w4 v.ownBlock) (hown4 : w4.ownsRow (g + 1) 3 1 v' m ys) (hbel : Below H w w2) (hlow : 0 < n → ∀ b off, A = some ⟨b, off, none⟩ → H + 2 ≤ b) :
    Rdr (w4.setCell ⟨H, 0, none⟩ v') g A n c l p ∧ Arr (w4.setCell ⟨H, 0, none⟩ v') H 23 #[v'] ∧ Arr (w4.setCell ⟨H, 0, none⟩ v') (H + 1) 25 #[e] ∧ (w4.setCell ⟨H, 0, none⟩ v').ownsRow (g + 1) 3 1 v' m ys ∧ Below H w (w4.setCell ⟨H, 0, none⟩ v') := by
  have hrow : ∀ x, v.ownBlock = some x → g + 1 ≤ x := fun x hx => (hown.lt x hx).1
  have k4 : Kp (fun x => g + 1 ≤ x) w2 w4 := (hw3.mono (fun _ _ h => h.elim)).grown hgrow (fun x _ hx => hrow x hx)
  have k5 : Kp (fun x => x = H ∨ g + 1 ≤ x) w2 (w4.setCell ⟨H, 0, none⟩ v') := Kp.setCell (S := fun x => x = H ∨ g + 1 ≤ x) (k4.mono (fun x _ h => Or.inr h)) (p := ⟨H, 0, none⟩) (Or.inl (Or.inl rfl)) _
  have hrd4 : Rdr w4 g A n c l p := hrd.kp k4 (fun x hx => by omega)
  refine ⟨⟨hrd4.arr.far (by show H ≠ g; omega) _, ?_, hrd.at_⟩, ?_, c2.kp k5 (by omega), ?_, ?_⟩
  · refine ⟨hrd4.rd.1, fun hn => ?_⟩
    obtain ⟨b, off, e, hb, hc⟩ := hrd4.rd.2 hn
    have hlb := hlow hn b off e
    exact ⟨b, off, e, hb, fun j u hu => (World.cell?_of_block (w := w4) (a := ⟨b, off + j, none⟩) (Below.heap_setCell w4 ⟨H, 0, none⟩ v' b (by show b ≠ H; omega))).trans (hc j u hu)⟩
  · exact (c1.kp k4 (by omega)).set 0 v'
  · exact own_far hown4 (by intro h; have := (hown4.lt _ h).1; have h2 : g + 1 ≤ H := this; omega) _
  · exact hbel.trans (k5.below (Nat.le_trans (Nat.le_of_lt c1.lt) (Nat.le_refl _)) (fun x hx => by omega))

theorem runS_first {B : List Bool} {p v : Nat} {L : List Int} {d : Int} (h : runS B 0 = some (p, L, d)) (hg : getAt B p 64 = some v) : runS B (0 + 1) = some (p + 64, L ++ [wrap64 (v : Int)], d) := by
  have e : runS B (0 + 1) = (runS B 0).bind fun s => (getAt B s.1 64).map fun (v : Nat) => (s.1 + 64, s.2.1 ++ [wrap64 (v : Int)], s.2.2) := rfl
  rw [e, h, Option.bind_some, hg]; rfl
theorem runS_next {B : List Bool} {k p q : Nat} {L : List Int} {d e : Int} (hk : 0 < k) (h : runS B k = some (p, L, d)) (hg : getDiff B p = some (e, q)) : runS B (k + 1) = some (q, L ++ [wrap64 (L.getD (k - 1) 0 + wrap64 (d + e))], wrap64 (d + e)) := by
  simp only [runS, h, Option.bind_some]
  rw [if_neg (by omega), hg]; rfl
theorem runS_first_none {B : List Bool} {p : Nat} {L : List Int} {d : Int} (h : runS B 0 = some (p, L, d)) (hg : getAt B p 64 = none) : runS B (0 + 1) = none := by
  have e : runS B (0 + 1) = (runS B 0).bind fun s => (getAt B s.1 64).map fun (v : Nat) => (s.1 + 64, s.2.1 ++ [wrap64 (v : Int)], s.2.2) := rfl
  rw [e, h, Option.bind_some, hg]; rfl
theorem runS_next_none {B : List Bool} {k p : Nat} {L : List Int} {d : Int} (hk : 0 < k) (h : runS B k = some (p, L, d)) (hg : getDiff B p = none) : runS B (k + 1) = none := by
  simp only [runS, h, Option.bind_some]
  rw [if_neg (by omega), hg]; rfl

theorem ta74 (z : Int) (w : World) : (Instr.typeAssert (.iface 74 (.agg #[.int .i64 z])) 20 74 true).run Try.prog w = .ok (.tuple #[.agg #[.int .i64 z], .bool true]) w := by
  kernel_rfl

set_option maxRecDepth 100000 in
theorem catch44 (p1 p2 : Nat) (v : Value) (y z : Int) (older : List PanicEntry) (w : World) (h1 : Arr w p1 23 #[v]) (h2 : Arr w p2 25 #[.int .i64 y]) :
    CallsD Try.prog 44 #[.pointer (some ⟨p1, 0, none⟩), .pointer (some ⟨p2, 0, none⟩)] (.panicking ({ v := .iface 74 (.agg #[.int .i64 z]), recovered := false } :: older)) w fun e u' w' =>
      e = .returned (.tuple #[]) ∧ u' = .panicking ({ v := .iface 74 (.agg #[.int .i64 z]), recovered := true } :: older) ∧ w'.cell? ⟨p1, 0, none⟩ = some (.slice none 0 0) ∧ w'.cell? ⟨p2, 0, none⟩ = some (.int .i64 5) ∧ Kp (fun x => x = p1 ∨ x = p2) w w' := by
  refine callsD_of_wpS Try.func44 rfl fun c₀ cs hu => ?_
  apply wpS_seq
  apply wpS_region
  simp [wpOpsS, go_sem, recoverD, hu, Try.ntmps44, Exit.thenS]
  refine wpS_of_wp ?_
  change Code.wp Try.prog _ _ { tmps := #[.pointer (some ⟨p1, 0, none⟩), .pointer (some ⟨p2, 0, none⟩), .iface 74 (.agg #[.int .i64 z]), undef, undef, .iface 74 (.agg #[.int .i64 z]), undef, undef, undef, undef, undef, undef, undef, undef, undef, undef], defers := [] } w
  have hta := ta74 z
  have A1 := h1.alloc (.cells #[.int .i64 z] 74)
  have A2 := h2.alloc (.cells #[.int .i64 z] 74)
  have hne : p2 ≠ p1 := h2.ne h1 (by decide)
  have hne' : p1 ≠ p2 := Ne.symm hne
  have k1 := A1.at_ (i := 0) rfl
  have k2 := A2.at_ (i := 0) rfl
  have g1 := A1.frozen 0
  have g2 := A2.frozen 0
  have B1 := ((A1.set 0 (.slice none 0 0)).far (p := ⟨p2, 0, none⟩) hne (.int .i64 5)).at_ (i := 0) rfl
  have B2 := ((A2.far (p := ⟨p1, 0, none⟩) hne' (.slice none 0 0)).set 0 (.int .i64 5)).at_ (i := 0) rfl
  have HB : Hid ((((w.alloc (.cells #[.int .i64 z] 74)).setCell ⟨p1, 0, none⟩ (.slice none 0 0)).setCell ⟨p2, 0, none⟩ (.int .i64 5)).cell? ⟨p1, 0, none⟩ = some (.slice none 0 0) ∧ (((w.alloc (.cells #[.int .i64 z] 74)).setCell ⟨p1, 0, none⟩ (.slice none 0 0)).setCell ⟨p2, 0, none⟩ (.int .i64 5)).cell? ⟨p2, 0, none⟩ = some (.int .i64 5) ∧ Kp (fun x => x = p1 ∨ x = p2) w (((w.alloc (.cells #[.int .i64 z] 74)).setCell ⟨p1, 0, none⟩ (.slice none 0 0)).setCell ⟨p2, 0, none⟩ (.int .i64 5))) :=
    ⟨B1, B2, (((Kp.refl _ w).alloc _).setCell (Or.inl (Or.inl rfl)) _).setCell (Or.inl (Or.inr rfl)) _⟩
  clear B1 B2 A1 A2 h1 h2
  go_wp2_with fail
  exact ⟨rfl, _, rfl, _, results_none rfl _ _ _, rfl, rfl, HB.out⟩

theorem idle44 (p1 p2 : Addr) (w : World) :
    CallsD Try.prog 44 #[.pointer (some p1), .pointer (some p2)] .returning w fun e u' w' => e = .returned (.tuple #[]) ∧ u' = .returning ∧ w' = w := by
  refine callsD_of_wpS Try.func44 rfl fun c₀ cs hu => ?_
  apply wpS_seq
  apply wpS_region
  simp [wpOpsS, go_sem, recoverD, hu, Try.ntmps44, Exit.thenS]
  refine wpS_of_wp ?_
  change Code.wp Try.prog _ _ { tmps := #[.pointer (some p1), .pointer (some p2), .nilIface, undef, undef, .nilIface, undef, undef, undef, undef, undef, undef, undef, undef, undef, undef], defers := [] } w
  go_wp2_with fail
  cases c₀
  exact ⟨rfl, _, by simp_all, _, results_none rfl _ _ _, rfl, rfl, rfl⟩

theorem ufin {w w3 : World} {H : Nat} {v0 e0 : Value} (a1 : Arr w3 H 23 #[v0]) (a2 : Arr w3 (H + 1) 25 #[e0]) (hb : Below H w w3) (v' e' : Value) :
    ((w3.setCell ⟨H, 0, none⟩ v').setCell ⟨H + 1, 0, none⟩ e').cell? ⟨H, 0, none⟩ = some v' ∧ ((w3.setCell ⟨H, 0, none⟩ v').setCell ⟨H + 1, 0, none⟩ e').cell? ⟨H + 1, 0, none⟩ = some e' ∧
    Below H w ((w3.setCell ⟨H, 0, none⟩ v').setCell ⟨H + 1, 0, none⟩ e') ∧ ∀ (base : Nat) (vv : Value) (n : Nat) (xs : List Value), w3.ownsRow base 3 1 vv n xs → ((w3.setCell ⟨H, 0, none⟩ v').setCell ⟨H + 1, 0, none⟩ e').ownsRow base 3 1 vv n xs := by
  refine ⟨((a1.set 0 v').far (p := ⟨H + 1, 0, none⟩) (by show H + 1 ≠ H; omega) e').at_ (i := 0) rfl, ((a2.far (p := ⟨H, 0, none⟩) (by show H ≠ H + 1; omega) v').set 0 e').at_ (i := 0) rfl,
    (hb.setCell (p := ⟨H, 0, none⟩) (Nat.le_refl _) v').setCell (p := ⟨H + 1, 0, none⟩) (Nat.le_succ _) e', fun base vv n xs h => ?_⟩
  exact own_far (own_far h (p := ⟨H, 0, none⟩) (own_ne h a1 (by decide)) v') (p := ⟨H + 1, 0, none⟩) (own_ne h a2 (by decide)) e'
theorem unpack_ok {w w4 : World} {l : List Nat} {m k : Nat} {L : List Int} {v : Value} (hm : unpackE l m = (if (unpack l m).isSome then 0 else 5) ∧ unpackL l m = (unpack l m).getD []) (hu : unpack l m = some L) (hL : L.length = k)
    (hb : Below w.heap.size w w4) (ho : w4.ownsRow w.heap.size 3 1 v k (ints L)) : UnpackPost w l m (.returned (.tuple #[v, .int .i64 0])) w4 := by
  subst hL
  refine ⟨v, ?_, ?_, hb⟩
  · rw [hm.1, hu]; rfl
  · rw [hm.2, hu]; exact ho
theorem unpack_no {w w4 : World} {l : List Nat} {m : Nat} (hm : unpackE l m = (if (unpack l m).isSome then 0 else 5) ∧ unpackL l m = (unpack l m).getD []) (hu : unpack l m = none)
    (hb : Below w.heap.size w w4) : UnpackPost w l m (.returned (.tuple #[.slice none 0 0, .int .i64 5])) w4 := by
  refine ⟨.slice none 0 0, ?_, ?_, hb⟩
  · rw [hm.1, hu]; rfl
  · rw [hm.2, hu]; exact World.ownsRow_nil _ _ _ _
theorem packB_le (L : List Int) : (packB L).length ≤ 10000 := by
  unfold packB
  split
  · rename_i h
    have h1 := packE_zero.1 h
    have h2 := enc_le L L.length
    rw [bytesOf_length]; omega
  · simp
theorem unpack_fails {w w2 w5 : World} {l : List Nat} {m : Nat} (hm : unpackE l m = (if (unpack l m).isSome then 0 else 5) ∧ unpackL l m = (unpack l m).getD []) (hu : unpack l m = none)
    (hb : Below w.heap.size w w2) (hk : Kp (fun x => x = w.heap.size ∨ x = w.heap.size + 1) w2 w5) : UnpackPost w l m (.returned (.tuple #[.slice none 0 0, .int .i64 5])) w5 := by
  refine ⟨.slice none 0 0, ?_, ?_, hb.trans (hk.below hb.size (fun x hx => by omega))⟩
  · rw [hm.1, hu]; rfl
  · rw [hm.2, hu]; exact World.ownsRow_nil _ _ _ _

set_option maxRecDepth 100000 in
set_option maxHeartbeats 1000000 in
theorem unpack_any (A : Option Addr) (n c B : Nat) (m : Int) (l : List Nat) (w : World) (hr : Rd w B A n (l.map bv)) (hB : B ≤ w.heap.size) (hn : n ≤ 1000000000) (hb : ∀ x ∈ l, x < 256) :
    Calls Try.prog 20 #[.slice A n c, .int .i64 m] w (UnpackPost w l m) := by
  obtain ⟨i0, hi, hz0, hz1, hz2⟩ := info_parts Try.info3
  have hmf : ∀ (fn : Fn) (first cap : Array Value) (w : World), (Instr.makeFunc fn first cap).run Try.prog w = .ok (.func fn first cap) w := fun _ _ _ _ => rfl
  obtain ⟨a1, a2⟩ := two_new w (.slice none 0 0) (.int .i64 0) 23 25
  by_cases h120 : 120 < m
  · have HE : Hid (unpackE l m = 2 ∧ unpackL l m = []) := ⟨by unfold unpackE; rw [if_pos h120], by unfold unpackL; rw [if_pos h120]⟩
    have HD : Hid (Below w.heap.size w ((w.alloc (.cells #[.slice none 0 0] 23)).alloc (.cells #[.int .i64 2] 25))) := ((Below.refl _ w).alloc (Nat.le_refl _) _).alloc (by simp) _
    obtain ⟨e1, e2⟩ := two_new w (.slice none 0 0) (.int .i64 2) 23 25
    have f1 := e1.at_ (i := 0) rfl
    have f2 := e2.at_ (i := 0) rfl
    clear e1 e2
    go_enter_defers Try.func20, Try.ntmps20
    go_wp2_with fail
    simp [bodyPostD, Leaves, settle, results, Try.results20, go_sem, f1, f2]
    exact ⟨_, by rw [HE.out.1], by rw [HE.out.2]; exact World.ownsRow_nil _ _ _ _, HD.out⟩
  · by_cases hneg : m < 0
    · have HE : Hid (unpackE l m = 1 ∧ unpackL l m = []) := ⟨by unfold unpackE; rw [if_neg h120, if_pos hneg], by unfold unpackL; rw [if_neg h120, if_pos hneg]⟩
      have HD : Hid (Below w.heap.size w ((w.alloc (.cells #[.slice none 0 0] 23)).alloc (.cells #[.int .i64 1] 25))) := ((Below.refl _ w).alloc (Nat.le_refl _) _).alloc (by simp) _
      obtain ⟨e1, e2⟩ := two_new w (.slice none 0 0) (.int .i64 1) 23 25
      have f1 := e1.at_ (i := 0) rfl
      have f2 := e2.at_ (i := 0) rfl
      clear e1 e2
      go_enter_defers Try.func20, Try.ntmps20
      go_wp2_with fail
      simp [bodyPostD, Leaves, settle, results, Try.results20, go_sem, f1, f2]
      exact ⟨_, by rw [HE.out.1], by rw [HE.out.2]; exact World.ownsRow_nil _ _ _ _, HD.out⟩
    · obtain ⟨m, rfl⟩ := Int.eq_ofNat_of_zero_le (show 0 ≤ m by omega)
      have hm120 : m ≤ 120 := by omega
      have HM : Hid (unpackE l m = (if (unpack l m).isSome then 0 else 5) ∧ unpackL l m = (unpack l m).getD []) := by
        refine ⟨?_, ?_⟩
        · unfold unpackE; rw [if_neg h120, if_neg hneg]; rfl
        · unfold unpackL; rw [if_neg h120, if_neg hneg]; rfl
      have hq := newReader_any A n c B l _ (hr.keep fun x hx => (Below.heap_alloc (w.alloc (.cells #[.slice none 0 0] 23)) (.cells #[.int .i64 0] 25) x (by simp; omega)).trans (Below.heap_alloc w _ x (by omega))) (by simp; omega) hn
      clear h120 hneg
      go_enter_defers Try.func20, Try.ntmps20
      go_wp2_with fail
      refine hq.mono ?_
      rintro e w1 ⟨g, A', c', rfl, hrd, hbel, hg, hlow0⟩
      have hlow : 0 < n → ∀ b off, A' = some ⟨b, off, none⟩ → w.heap.size + 2 ≤ b := by simpa using hlow0
      have HLEN : Hid ((bitsOf l).length = 8 * n) := by show _ = _; rw [bitsOf_length, hrd.len]
      have hH : w.heap.size + 2 ≤ g := by simpa using hg
      have b1 := a1.below hbel (by simp; omega)
      have b2 := a2.below hbel (by simp)
      have hbel0 : Below w.heap.size w w1 := (((Below.refl _ w).alloc (Nat.le_refl _) _).alloc (by simp) _).trans (hbel.mono (by simp; omega))
      have hrd0 := hrd
      clear hq hbel hg a1 a2 hrd hlow0
      go_wp2_with fail
      go_loopw [7, 21] (fun d i wr => ∃ (k p : Nat) (L : List Int) (dd : Int) (v : Value), k ≤ m ∧ i = .int .i64 k ∧ d = .int .i64 dd ∧ Hid (runS (bitsOf l) k = some (p, L, dd)) ∧ Rdr wr g A' n c' l p ∧ Arr wr w.heap.size 23 #[v] ∧ Arr wr (w.heap.size + 1) 25 #[.int .i64 0] ∧ wr.ownsRow (g + 1) 3 1 v k (ints L) ∧ Below w.heap.size w wr) (fun _ i _ => m - (intOf i).toNat)
      case atStart => exact ⟨0, 0, [], 0, _, Nat.zero_le _, rfl, rfl, rfl, hrd0, b1, b2, World.ownsRow_nil _ _ _ _, hbel0⟩
      case round =>
        obtain ⟨k, p, L, dd, v, hk, rfl, rfl, HS, hrd, c1, c2, hown, hbel⟩ := hrel
        clear hrd0 b1 b2 hbel0
        by_cases hlt : k < m
        · rcases Nat.eq_zero_or_pos k with h0 | h0
          · subst h0
            by_cases hfit : p + 64 ≤ 8 * n
            · have hv := c1.at_ (i := 0) rfl
              have hf := c1.frozen 0
              have hq := stake_some g n c' p 64 A' l wr.drew ⟨hrd.arr, hrd.rd, hrd.at_⟩ hn (by omega) hfit hb
              obtain ⟨x, hx⟩ : ∃ x, x = wrap64 ((natOf (((bitsOf l).drop p).take 64) : Nat) : Int) := ⟨_, rfl⟩
              rw [← hx] at hq
              have HX := Lib.hid hx
              have HQ := Lib.hid hq
              have hown2 : ∀ {w2 : World}, Kp (fun y => y = g) wr.drew w2 → w2.ownsRow (g + 1) 3 1 v 0 (ints L) := fun hk => own_kp (w := wr.drew) hown hk (fun y hy => by
                rintro rfl
                exact own_ne hown hrd.arr (by decide) hy)
              have hkeep : ∀ {w2 : World}, Kp (fun y => y = g) wr.drew w2 → Arr w2 w.heap.size 23 #[v] := fun hk => c1.kp (w := wr.drew) hk (by omega)
              have hbs : ∀ {w2 : World}, Kp (fun y => y = g) wr.drew w2 → g + 1 ≤ (w2.alloc (.cells #[.int .i64 x] 3)).heap.size := fun {w2} hk => by
                have h1 : wr.heap.size ≤ w2.heap.size := hk.size
                have h2 := hrd.arr.lt
                simp; omega
              have hvH : v.ownBlock ≠ some w.heap.size := own_ne hown c1 (by decide)
              clear hx hq
              go_wp2_with fail
              refine wp_region_noPanic ?_
              go_region_law (first | (refine step_append_lies _ (by rfl) _ _ _ (by rfl) (g + 1) 3 i0 _ 1 8 Try.underlying23 hi hz0 hz1 hz2 rfl (by omega) v 0 (ints L) (by rfl) ((hown2 hkc).alloc _) ⟨w2.heap.size, 0, none⟩ 1 1 [.int .i64 x] (by rfl) (by rfl) (cell_one_new _ _ 3) (by simp [Value.oneCell']) (by omega) (by unfold maxLen; omega) (by omega) (hbs hkc) (w2.heap.size + 1) (by simp) ?_; intro gg cap w4 hown4 hgrow hat hlt2; have a4 := ((hkeep hkc).alloc (.cells #[.int .i64 x] 3)).grown hgrow hvH; have hv4 := a4.at_ (i := 0) rfl; have hf4 := a4.frozen 0) | (go_simp; go_at_call 46; refine HQ.out.mono ?_; rintro r0 w2 ⟨rfl, hrc, hkc⟩; have hv2 := (hkeep hkc).at_ (i := 0) rfl; have hv3 := ((hkeep hkc).alloc (.cells #[.int .i64 x] 3)).at_ (i := 0) rfl))
              all_goals
                refine NoPanic.normal ?_
                have HF : Hid (Rdr (w4.setCell ⟨w.heap.size, 0, none⟩ (.slice (some ⟨gg, 0, none⟩) (0 + 1) cap)) g A' n c' l (p + 64) ∧ Arr (w4.setCell ⟨w.heap.size, 0, none⟩ (.slice (some ⟨gg, 0, none⟩) (0 + 1) cap)) w.heap.size 23 #[.slice (some ⟨gg, 0, none⟩) (0 + 1) cap] ∧ Arr (w4.setCell ⟨w.heap.size, 0, none⟩ (.slice (some ⟨gg, 0, none⟩) (0 + 1) cap)) (w.heap.size + 1) 25 #[.int .i64 0] ∧ (w4.setCell ⟨w.heap.size, 0, none⟩ (.slice (some ⟨gg, 0, none⟩) (0 + 1) cap)).ownsRow (g + 1) 3 1 (.slice (some ⟨gg, 0, none⟩) (0 + 1) cap) (0 + 1) (ints (L ++ [x])) ∧ Below w.heap.size w (w4.setCell ⟨w.heap.size, 0, none⟩ (.slice (some ⟨gg, 0, none⟩) (0 + 1) cap))) :=
                  ustep hrc hH (hkeep hkc) (c2.kp (w := wr.drew) hkc (by omega)) (hown2 hkc) ((Kp.refl _ w2).alloc _) hgrow (by simpa [ints] using hown4) (hbel.drew.trans ((Kp.below (w := wr.drew) hkc hbel.size) (by intro y hy; omega))) hlow
                have HS2 : Hid (runS (bitsOf l) (0 + 1) = some (p + 64, L ++ [x], dd)) := by
                  show _ = _
                  have hga : getAt (bitsOf l) p 64 = some (natOf (((bitsOf l).drop p).take 64)) := by
                    unfold getAt; rw [if_pos (by rw [HLEN.out]; exact hfit)]
                  rw [runS_first HS.out hga, HX.out]
                clear hown4 hgrow hat hlt2 a4 hv4 hf4 hv2 hv3 hrc hkc
                go_wp2_with fail
                go_roundw
                case rel => exact ⟨1, p + 64, L ++ [x], dd, _, by omega, by go_num, rfl, HS2, HF.out.1, HF.out.2.1, HF.out.2.2.1, HF.out.2.2.2.1, HF.out.2.2.2.2⟩
                case measure => simp [intOf]; omega
            · have hv := c1.at_ (i := 0) rfl
              have hf := c1.frozen 0
              have hq := stake_none g n c' p 64 A' l wr.drew ⟨hrd.arr, hrd.rd, hrd.at_⟩ hn (by omega) (by omega)
              have HQ := Lib.hid hq
              have HU : Hid (unpack l m = none) := by
                show _ = _
                unfold unpack
                rw [runS_none (runS_first_none HS.out (by unfold getAt; rw [if_neg (by rw [HLEN.out]; exact hfit)])) (by omega)]; rfl
              have HP : ∀ (w2 : World), Kp (fun y => y = g) wr.drew w2 → Arr w2 w.heap.size 23 #[v] ∧ Arr w2 (w.heap.size + 1) 25 #[.int .i64 0] ∧ Below w.heap.size w w2 := fun w2 hk =>
                ⟨c1.kp (w := wr.drew) hk (by omega), c2.kp (w := wr.drew) hk (by omega), hbel.drew.trans (Kp.below (w := wr.drew) hk hbel.size (by intro y hy; omega))⟩
              have HPP := Lib.hid HP
              clear hq HP
              go_wp2_with fail
              refine wp_region_any (by kernel_rfl) ?_
              change wpAny _ _ _ _ _ _ _ wr.drew
              refine wpAny_ready (rs := [0, 1]) (by kernel_rfl) (by simp) ?_
              refine AllReady.cons rfl (fun K hK => ?_) (AllReady.cons rfl (fun K hK => ?_) AllReady.nil)
              · go_simp
                refine hK _ _ ?_
                clear hK K
                refine wpAny_ready (rs := [1]) (by kernel_rfl) (by simp) ?_
                refine AllReady.cons rfl (fun K hK => ?_) AllReady.nil
                go_simp
                refine hK _ _ ?_
                clear hK K
                refine wpAny_ready (rs := [2]) (by kernel_rfl) (by simp) ?_
                refine AllReady.cons rfl (fun K hK => ?_) AllReady.nil
                go_simp
                refine HQ.out.mono ?_
                rintro r0 w2 ⟨rfl, hrc, hkc⟩
                obtain ⟨b1, b2, hb3⟩ := HPP.out w2 hkc
                have HB3 := Lib.hid hb3
                have HB1 := Lib.hid b1
                have HB2 := Lib.hid b2
                clear hrc hkc b1 b2 hb3
                simp only [gaveUpS]
                go_wp2_with fail
                refine leaves_cons (f := 44) (args := #[.pointer (some ⟨w.heap.size, 0, none⟩), .pointer (some ⟨w.heap.size + 1, 0, none⟩)]) (by simp) (by simp [go_sem]) ?_
                refine (catch44 w.heap.size (w.heap.size + 1) v 0 5 [] w2 HB1.out HB2.out).mono ?_
                rintro e u' w5 ⟨rfl, rfl, d1, d2, hk5⟩
                simp [Leaves, settle, results, Try.results20, go_sem, d1, d2]
                exact unpack_fails HM.out HU.out HB3.out hk5
              · go_simp
                refine hK _ _ ?_
                clear hK K
                refine wpAny_ready (rs := [0, 2]) (by kernel_rfl) (by simp) ?_
                refine AllReady.cons rfl (fun K hK => ?_) (AllReady.cons rfl (fun K hK => ?_) AllReady.nil)
                · go_simp
                  refine hK _ _ ?_
                  clear hK K
                  refine wpAny_ready (rs := [2]) (by kernel_rfl) (by simp) ?_
                  refine AllReady.cons rfl (fun K hK => ?_) AllReady.nil
                  go_simp
                  refine HQ.out.mono ?_
                  rintro r0 w2 ⟨rfl, hrc, hkc⟩
                  obtain ⟨b1, b2, hb3⟩ := HPP.out w2 hkc
                  have HB3 := Lib.hid hb3
                  have HB1 := Lib.hid b1
                  have HB2 := Lib.hid b2
                  clear hrc hkc b1 b2 hb3
                  simp only [gaveUpS]
                  go_wp2_with fail
                  refine leaves_cons (f := 44) (args := #[.pointer (some ⟨w.heap.size, 0, none⟩), .pointer (some ⟨w.heap.size + 1, 0, none⟩)]) (by simp) (by simp [go_sem]) ?_
                  refine (catch44 w.heap.size (w.heap.size + 1) v 0 5 [] w2 HB1.out HB2.out).mono ?_
                  rintro e u' w5 ⟨rfl, rfl, d1, d2, hk5⟩
                  simp [Leaves, settle, results, Try.results20, go_sem, d1, d2]
                  exact unpack_fails HM.out HU.out HB3.out hk5
                · go_simp
                  refine HQ.out.mono ?_
                  rintro r0 w2 ⟨rfl, hrc, hkc⟩
                  obtain ⟨b1, b2, hb3⟩ := HPP.out w2 hkc
                  have HB3 := Lib.hid hb3
                  have HB1 := Lib.hid b1
                  have HB2 := Lib.hid b2
                  clear hrc hkc b1 b2 hb3
                  simp only [gaveUpS]
                  go_wp2_with fail
                  refine leaves_cons (f := 44) (args := #[.pointer (some ⟨w.heap.size, 0, none⟩), .pointer (some ⟨w.heap.size + 1, 0, none⟩)]) (by simp) (by simp [go_sem]) ?_
                  refine (catch44 w.heap.size (w.heap.size + 1) v 0 5 [] w2 HB1.out HB2.out).mono ?_
                  rintro e u' w5 ⟨rfl, rfl, d1, d2, hk5⟩
                  simp [Leaves, settle, results, Try.results20, go_sem, d1, d2]
                  exact unpack_fails HM.out HU.out HB3.out hk5
          · cases hgd : getDiff (bitsOf l) p with
            | none =>
              have hq := sget_any g n c' p A' l wr hrd hn hb
              have HQ : Hid (Calls Try.prog 47 #[.pointer (some ⟨g, 0, none⟩)] wr fun r w2 => r = gaveUpS 5 ∧ Kp (fun y => y = g) wr w2) := by
                refine hq.mono fun r w2 h => ?_
                obtain ⟨h1, _, h3⟩ := h
                exact ⟨h3 hgd, h1⟩
              have HU : Hid (unpack l m = none) := by
                show _ = _
                unfold unpack
                rw [runS_none (runS_next_none h0 HS.out hgd) (by omega)]; rfl
              have HP : ∀ (w2 : World), Kp (fun y => y = g) wr w2 → Arr w2 w.heap.size 23 #[v] ∧ Arr w2 (w.heap.size + 1) 25 #[.int .i64 0] ∧ Below w.heap.size w w2 := fun w2 hk =>
                ⟨c1.kp hk (by omega), c2.kp hk (by omega), hbel.trans (Kp.below hk hbel.size (by intro y hy; omega))⟩
              have HPP := Lib.hid HP
              clear hq HP hgd
              go_wp2_with fail
              refine HQ.out.mono ?_
              rintro r0 w2 ⟨rfl, hkc⟩
              obtain ⟨b1, b2, hb3⟩ := HPP.out w2 hkc
              have HB3 := Lib.hid hb3
              have HB1 := Lib.hid b1
              have HB2 := Lib.hid b2
              clear hkc b1 b2 hb3
              simp only [gaveUpS]
              go_wp2_with fail
              refine leaves_cons (f := 44) (args := #[.pointer (some ⟨w.heap.size, 0, none⟩), .pointer (some ⟨w.heap.size + 1, 0, none⟩)]) (by simp) (by simp [go_sem]) ?_
              refine (catch44 w.heap.size (w.heap.size + 1) v 0 5 [] w2 HB1.out HB2.out).mono ?_
              rintro e u' w5 ⟨rfl, rfl, d1, d2, hk5⟩
              simp [Leaves, settle, results, Try.results20, go_sem, d1, d2]
              exact unpack_fails HM.out HU.out HB3.out hk5
            | some eq =>
              obtain ⟨e, q⟩ := eq
              have hq := sget_any g n c' p A' l wr hrd hn hb
              have HQ : Hid (Calls Try.prog 47 #[.pointer (some ⟨g, 0, none⟩)] wr fun r w2 => r = .returned (.int .i64 e) ∧ Rdr w2 g A' n c' l q ∧ Kp (fun y => y = g) wr w2) := by
                refine hq.mono fun r w2 h => ?_
                obtain ⟨h1, h2, _⟩ := h
                exact ⟨(h2 e q hgd).1, (h2 e q hgd).2, h1⟩
              obtain ⟨dn, hdn⟩ : ∃ dn, dn = wrap64 (dd + e) := ⟨_, rfl⟩
              obtain ⟨y, hy⟩ : ∃ y, y = L.getD (k - 1) 0 := ⟨_, rfl⟩
              obtain ⟨x, hx⟩ : ∃ x, x = wrap64 (y + dn) := ⟨_, rfl⟩
              have HS2 : Hid (runS (bitsOf l) (k + 1) = some (q, L ++ [x], dn)) := by
                show _ = _
                rw [runS_next h0 HS.out hgd, hx, hy, hdn]
              have HDN := Lib.hid hdn
              have hL : L.length = k := runS_length HS.out
              obtain ⟨r, cap, cur, rfl, _, har, hcap, _⟩ := own_form hown h0
              have hyc : wr.cell? ⟨r, k - 1, none⟩ = some (.int .i64 y) := by
                refine own_cell hown ?_
                rw [hy]
                simp [ints, List.getD, show k - 1 < L.length by omega]
              have hrg : g + 1 ≤ r := (hown.lt r rfl).1
              have hrow : (Value.slice (some ⟨r, 0, none⟩) k cap).ownBlock ≠ some w.heap.size := by
                intro h
                have h : r = w.heap.size := by injection h
                omega
              clear hq hgd hdn hy hL
              go_wp2_with fail
              refine HQ.out.mono ?_
              rintro r0 w2 ⟨rfl, hrc, hkc⟩
              have e1 := c1.kp hkc (by omega)
              have e2 := c2.kp hkc (by omega)
              have hown2 := own_kp hown hkc (by
                intro z hz h
                have hz : r = z := by injection hz
                omega)
              have hbel2 := hbel.trans (Kp.below hkc hbel.size (by intro y hy; omega))
              have ey : w2.cell? ⟨r, k - 1, none⟩ = some (.int .i64 y) := (World.cell?_of_block (w := wr) (a := ⟨r, k - 1, none⟩) (hkc.block r har.lt (by omega))).trans hyc
              have hv2 := e1.at_ (i := 0) rfl
              have hbs : g + 1 ≤ w2.heap.size := hrc.arr.lt
              have har2 := har.kp hkc (by omega)
              have ey3 : (w2.alloc (.cells #[.int .i64 x] 3)).cell? ⟨r, k - 1, none⟩ = some (.int .i64 y) := by rw [World.cell?_alloc_past _ _ _ har2.lt]; exact ey
              have hv3 := (e1.alloc (.cells #[.int .i64 x] 3)).at_ (i := 0) rfl
              have HOWN := Lib.hid hown2
              have HE1 := Lib.hid e1
              have HE2 := Lib.hid e2
              have HBEL := Lib.hid hbel2
              have HRC := Lib.hid hrc
              clear c1 c2 hown hbel hrd hkc hown2 hbel2 e1 e2 hrc har har2 hyc
              have hwx : IntKind.i64.wrap (y + dn) = x := by rw [hx, IntWalk.i64_left]
              have HXX := Lib.hid hx
              have hwd : wrap64 (dd + e) = dn := HDN.out.symm
              clear hx
              go_wp2_with fail
              rw [hwd]
              have HO2 : Hid ((w2.alloc (.cells #[.int .i64 x] 3)).drew.ownsRow (g + 1) 3 1 (.slice (some ⟨r, 0, none⟩) k cap) k (ints L)) := HOWN.out.alloc _
              have HE1D : Hid (Arr (w2.alloc (.cells #[.int .i64 x] 3)).drew w.heap.size 23 #[.slice (some ⟨r, 0, none⟩) k cap]) := HE1.out.alloc _
              have hA0 : 0 < 1 := by decide
              have hA1 : ∀ u ∈ [Value.int .i64 x], u.oneCell' = true := by simp [Value.oneCell']
              have hA2 : k + 1 ≤ maxLen := by unfold maxLen; omega
              have hA3 : (k + 1) * 8 ≤ 140737488355328 := by omega
              have hbs2 : g + 1 ≤ (w2.alloc (.cells #[.int .i64 x] 3)).heap.size := by simp; omega
              have hsz2 : (w2.alloc (.cells #[.int .i64 x] 3)).heap.size = w2.heap.size + 1 := by simp
              have hk1 : IntKind.i64.wrap ((k : Int) - 1) = (k : Int) - 1 := IntWalk.i64_in _ (by omega)
              have hk2 : (0 : Int) ≤ (k : Int) - 1 := by omega
              have hk5 : (1 : Int) ≤ (k : Int) := by omega
              have hk3 : (k : Int) - 1 < (k : Int) := by omega
              have hk4 : ((k : Int) - 1).toNat = k - 1 := by omega
              refine wp_region_noPanic ?_
              go_region_law (first | (refine step_append_lies _ (by rfl) _ _ _ (by rfl) (g + 1) 3 i0 _ 1 8 Try.underlying23 hi hz0 hz1 hz2 rfl hA0 (.slice (some ⟨r, 0, none⟩) k cap) k (ints L) (by rfl) HO2.out ⟨w2.heap.size, 0, none⟩ 1 1 [.int .i64 x] (by rfl) (by rfl) (cell_one_new w2 _ 3) hA1 hA0 hA2 hA3 hbs2 (w2.heap.size + 1) hsz2 ?_; intro gg cap_1 w4 hown4 hgrow hat hlt2; have a4 := HE1D.out.grown hgrow hrow; have hv4 := a4.at_ (i := 0) rfl; have hf4 := a4.frozen 0))
              clear hk1 hk2 hk3 hk4 hk5 hwx hwd hv2 hv3 ey ey3
              all_goals
                refine NoPanic.normal ?_
                have HF : Hid (Rdr (w4.setCell ⟨w.heap.size, 0, none⟩ (.slice (some ⟨gg, 0, none⟩) (k + 1) cap_1)) g A' n c' l q ∧ Arr (w4.setCell ⟨w.heap.size, 0, none⟩ (.slice (some ⟨gg, 0, none⟩) (k + 1) cap_1)) w.heap.size 23 #[.slice (some ⟨gg, 0, none⟩) (k + 1) cap_1] ∧ Arr (w4.setCell ⟨w.heap.size, 0, none⟩ (.slice (some ⟨gg, 0, none⟩) (k + 1) cap_1)) (w.heap.size + 1) 25 #[.int .i64 0] ∧ (w4.setCell ⟨w.heap.size, 0, none⟩ (.slice (some ⟨gg, 0, none⟩) (k + 1) cap_1)).ownsRow (g + 1) 3 1 (.slice (some ⟨gg, 0, none⟩) (k + 1) cap_1) (k + 1) (ints (L ++ [x])) ∧ Below w.heap.size w (w4.setCell ⟨w.heap.size, 0, none⟩ (.slice (some ⟨gg, 0, none⟩) (k + 1) cap_1))) :=
                  ustep HRC.out hH HE1.out HE2.out HOWN.out (((Kp.refl _ w2).alloc _).drew) hgrow (by simpa [ints] using hown4) HBEL.out hlow
                clear hown4 hgrow hat hlt2 a4 hv4 hf4
                go_wp2_with fail
                go_roundw
                case rel => exact ⟨k + 1, q, L ++ [x], dn, _, by omega, by go_num, rfl, HS2, HF.out.1, HF.out.2.1, HF.out.2.2.1, HF.out.2.2.2.1, HF.out.2.2.2.2⟩
                case measure => simp [intOf]; omega
        · obtain rfl : k = m := by omega
          have hv := c1.at_ (i := 0) rfl
          obtain ⟨A2, c2', rfl, hrL, _⟩ := Rd.of_own hown
          have hLn : L.length = k := runS_length HS.out
          have hp := pack_any A2 k c2' wr.heap.size L wr hrL (Nat.le_refl _) (by omega)
          have HFA : Hid (wr.ownsRow w.heap.size 3 1 (.slice A2 k c2') k (ints L)) := own_base hown (by omega)
          have hU : unpack l k = if packE L = 0 ∧ packB L = l then some L else none := by
            unfold unpack; rw [HS.out]; rfl
          have HR0 : Hid (Rd w B A n (l.map bv)) := hr
          by_cases he : packE L = 0
          · unfold PackPost at hp
            rw [he] at hp
            have HE := Lib.hid he
            have HU := Lib.hid hU
            have HLN := Lib.hid hLn
            have HBEL := Lib.hid hbel
            clear he hU hown hLn hr
            go_wp2_with fail
            refine hp.mono ?_
            rintro r0 w2 ⟨v2, rfl, hown2, hb2⟩
            obtain ⟨A3, c3, rfl, hr3, _⟩ := Rd.of_own hown2
            have hbl : (packB L).length ≤ 10000 := packB_le L
            have hq := equal_any A3 A (packB L).length c3 w2.heap.size n c B (packB L) l w2 hr3 (HR0.out.below ((HBEL.out.trans (hb2.mono HBEL.out.size)).mono hB)) (by omega) hn
            have e1 := c1.below hb2 c1.lt
            have e2 := c2.below hb2 c2.lt
            have HO2 : Hid (w2.ownsRow w.heap.size 3 1 (.slice A2 k c2') k (ints L)) := own_kp HFA.out (Kp.none_of_below (S := fun _ => False) hb2) (fun _ _ h => h)
            have HB2 : Hid (Below w.heap.size w w2) := HBEL.out.trans (hb2.mono HBEL.out.size)
            clear hp hown2 hr3 hbl c1 c2 hb2 hbel hrL
            by_cases heq : packB L = l
            · rw [decide_eq_true heq] at hq
              have HU2 : Hid (unpack l k = some L) := by show _ = _; rw [HU.out, if_pos ⟨HE.out, heq⟩]
              clear heq
              go_wp2_with fail
              refine hq.mono ?_
              rintro r0 w3' ⟨rfl, j, rfl⟩
              obtain ⟨w3, hw3⟩ : ∃ w3, w3 = w2.drewN j := ⟨_, rfl⟩
              have f1 := e1.drewN j
              have f2 := e2.drewN j
              have HB3 : Hid (Below w.heap.size w (w2.drewN j)) := Kp.below ((Kp.of_below HB2.out).drewN j) (Nat.le_refl _) (fun x hx => by omega)
              have HO3 : Hid ((w2.drewN j).ownsRow w.heap.size 3 1 (.slice A2 k c2') k (ints L)) := HO2.out
              rw [← hw3] at f1 f2 HB3 HO3 ⊢
              have hv3 := f1.at_ (i := 0) rfl
              have hv4 := f2.at_ (i := 0) rfl
              have hf3 := f1.frozen 0
              have hf4 := f2.frozen 0
              obtain ⟨d1, d2, d3, d4⟩ := ufin f1 f2 HB3.out (.slice A2 k c2') (.int .i64 0)
              have HF : Hid (UnpackPost w l k (.returned (.tuple #[.slice A2 k c2', .int .i64 0])) ((w3.setCell ⟨w.heap.size, 0, none⟩ (.slice A2 k c2')).setCell ⟨w.heap.size + 1, 0, none⟩ (.int .i64 0))) :=
                unpack_ok HM.out HU2.out HLN.out d3 (d4 _ _ _ _ HO3.out)
              have HD : Hid (((w3.setCell ⟨w.heap.size, 0, none⟩ (.slice A2 k c2')).setCell ⟨w.heap.size + 1, 0, none⟩ (.int .i64 0)).cell? ⟨w.heap.size, 0, none⟩ = some (.slice A2 k c2') ∧ ((w3.setCell ⟨w.heap.size, 0, none⟩ (.slice A2 k c2')).setCell ⟨w.heap.size + 1, 0, none⟩ (.int .i64 0)).cell? ⟨w.heap.size + 1, 0, none⟩ = some (.int .i64 0)) := ⟨d1, d2⟩
              clear d1 d2 d3 d4 hw3 f1 f2 e1 e2 hq
              go_wp2_with fail
              refine leaves_cons (f := 44) (args := #[.pointer (some ⟨w.heap.size, 0, none⟩), .pointer (some ⟨w.heap.size + 1, 0, none⟩)]) (by simp) (by simp [go_sem]) ?_
              refine (idle44 _ _ _).mono ?_
              rintro e u' w5 ⟨rfl, rfl, rfl⟩
              obtain ⟨d1, d2⟩ := HD.out
              simp [Leaves, settle, results, Try.results20, go_sem, d1, d2]
              exact HF.out
            · rw [decide_eq_false heq] at hq
              have HU2 : Hid (unpack l k = none) := by show _ = _; rw [HU.out, if_neg (fun h => heq h.2)]
              clear heq
              go_wp2_with fail
              refine hq.mono ?_
              rintro r0 w3' ⟨rfl, j, rfl⟩
              obtain ⟨w3, hw3⟩ : ∃ w3, w3 = w2.drewN j := ⟨_, rfl⟩
              have f1 := e1.drewN j
              have f2 := e2.drewN j
              have HB3 : Hid (Below w.heap.size w (w2.drewN j)) := Kp.below ((Kp.of_below HB2.out).drewN j) (Nat.le_refl _) (fun x hx => by omega)
              rw [← hw3] at f1 f2 HB3 ⊢
              have hv3 := f1.at_ (i := 0) rfl
              have hv4 := f2.at_ (i := 0) rfl
              have hf3 := f1.frozen 0
              have hf4 := f2.frozen 0
              obtain ⟨d1, d2, d3, d4⟩ := ufin f1 f2 HB3.out (.slice none 0 0) (.int .i64 5)
              have HF : Hid (UnpackPost w l k (.returned (.tuple #[.slice none 0 0, .int .i64 5])) ((w3.setCell ⟨w.heap.size, 0, none⟩ (.slice none 0 0)).setCell ⟨w.heap.size + 1, 0, none⟩ (.int .i64 5))) :=
                unpack_no HM.out HU2.out d3
              have HD : Hid (((w3.setCell ⟨w.heap.size, 0, none⟩ (.slice none 0 0)).setCell ⟨w.heap.size + 1, 0, none⟩ (.int .i64 5)).cell? ⟨w.heap.size, 0, none⟩ = some (.slice none 0 0) ∧ ((w3.setCell ⟨w.heap.size, 0, none⟩ (.slice none 0 0)).setCell ⟨w.heap.size + 1, 0, none⟩ (.int .i64 5)).cell? ⟨w.heap.size + 1, 0, none⟩ = some (.int .i64 5)) := ⟨d1, d2⟩
              clear d1 d2 d3 d4 hw3 f1 f2 e1 e2 hq
              go_wp2_with fail
              refine leaves_cons (f := 44) (args := #[.pointer (some ⟨w.heap.size, 0, none⟩), .pointer (some ⟨w.heap.size + 1, 0, none⟩)]) (by simp) (by simp [go_sem]) ?_
              refine (idle44 _ _ _).mono ?_
              rintro e u' w5 ⟨rfl, rfl, rfl⟩
              obtain ⟨d1, d2⟩ := HD.out
              simp [Leaves, settle, results, Try.results20, go_sem, d1, d2]
              exact HF.out
          · have HU2 : Hid (unpack l k = none) := by show _ = _; rw [hU, if_neg (fun h => he h.1)]
            have hne : (packE L == 0) = false := by simpa using he
            have hne2 : (packE L != 0) = true := by simpa using he
            have HBEL := Lib.hid hbel
            unfold PackPost at hp
            clear hU hown hLn hr he
            go_wp2_with fail
            refine hp.mono ?_
            rintro r0 w2 ⟨v2, rfl, hown2, hb2⟩
            have f1 := c1.below hb2 c1.lt
            have f2 := c2.below hb2 c2.lt
            have HB2 : Hid (Below w.heap.size w w2) := HBEL.out.trans (hb2.mono HBEL.out.size)
            have hv3 := f1.at_ (i := 0) rfl
            have hv4 := f2.at_ (i := 0) rfl
            have hf3 := f1.frozen 0
            have hf4 := f2.frozen 0
            obtain ⟨d1, d2, d3, d4⟩ := ufin f1 f2 HB2.out (.slice none 0 0) (.int .i64 5)
            have HF : Hid (UnpackPost w l k (.returned (.tuple #[.slice none 0 0, .int .i64 5])) ((w2.setCell ⟨w.heap.size, 0, none⟩ (.slice none 0 0)).setCell ⟨w.heap.size + 1, 0, none⟩ (.int .i64 5))) :=
              unpack_no HM.out HU2.out d3
            have HD : Hid (((w2.setCell ⟨w.heap.size, 0, none⟩ (.slice none 0 0)).setCell ⟨w.heap.size + 1, 0, none⟩ (.int .i64 5)).cell? ⟨w.heap.size, 0, none⟩ = some (.slice none 0 0) ∧ ((w2.setCell ⟨w.heap.size, 0, none⟩ (.slice none 0 0)).setCell ⟨w.heap.size + 1, 0, none⟩ (.int .i64 5)).cell? ⟨w.heap.size + 1, 0, none⟩ = some (.int .i64 5)) := ⟨d1, d2⟩
            clear d1 d2 d3 d4 f1 f2 c1 c2 hp hown2 hb2 hbel hrL
            go_wp2_with fail
            refine leaves_cons (f := 44) (args := #[.pointer (some ⟨w.heap.size, 0, none⟩), .pointer (some ⟨w.heap.size + 1, 0, none⟩)]) (by simp) (by simp [go_sem]) ?_
            refine (idle44 _ _ _).mono ?_
            rintro e u' w5 ⟨rfl, rfl, rfl⟩
            obtain ⟨d1, d2⟩ := HD.out
            simp [Leaves, settle, results, Try.results20, go_sem, d1, d2]
            exact HF.out
end Go.Proofs.Ytnbamngancchmaa
