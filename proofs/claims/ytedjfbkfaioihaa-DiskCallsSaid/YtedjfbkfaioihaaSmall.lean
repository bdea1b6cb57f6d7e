/- Room, Fault, Fuse, List of a disk. Conditions: files of at most 10^9 bytes together; at most 10^6 names. -/
import Derived.Test.YtedjfbkfaioihaaAlive
namespace Go.Proofs.Ytedjfbkfaioihaa
open Go.RowKit Go.Shelf Go.Maps

def roomV (st : Ds) : Int := st.quota - (usedL st.fs st.dir : Nat)
set_option maxRecDepth 100000 in
set_option maxHeartbeats 2000000 in
theorem room20 (D : Nat) (st : Ds) (φ : Nat → Prop) (w : World) (h : DK w φ D st) (hu : usedL st.fs st.dir ≤ 1000000000) :
    Calls Try.prog 20 #[.pointer (some ⟨D, 0, none⟩)] w fun e w' => e = .returned (.int .i64 (roomV st)) ∧ Below w.heap.size w w' := by
  have hus := fun W (hb : Below w.heap.size w W) => used50 D st φ W (h.below hb (Nat.le_refl _)) hu
  have hq := h.inv.quota
  have hc : ∀ W, Below w.heap.size w W → W.cell? ⟨D, 0, none⟩ = some (.int .i64 st.quota) := fun W hb => by
    obtain ⟨_, bn, bs, vp, Q, hk⟩ := h.below hb (Nat.le_refl _)
    exact hk.d.at_ rfl
  have c0 := hc w (Below.refl _ w)
  have hu0 := hus w.drew (Below.refl _ w).drew
  obtain ⟨u, hue⟩ : ∃ u, u = usedL st.fs st.dir := ⟨_, rfl⟩
  have hr : Hid (roomV st = st.quota - (u : Int)) := Lib.hid (by unfold roomV; rw [hue])
  rw [← hue] at hus hu0 hu
  have e1 : IntKind.i64.wrap (st.quota - (u : Int)) = st.quota - (u : Int) := IntWalk.i64_in _ (by omega)
  have HC := Lib.hid hc
  clear hue h hus hc
  rw [hr.out]
  go_enter Try.func20, Try.ntmps20
  go_wp2_with fail
  go_region_held3 (fun w' => w'.cell? ⟨D, 0, none⟩ = some (.int .i64 st.quota)) (first | go_keep | exact c0 | exact HC.out _ hb5) (first | (go_at_call 50; refine hu0.mono ?_; rintro r5 w5 ⟨rfl, hb5'⟩; have hb5 : Below w.heap.size w w5 := (Below.refl _ w).drew.trans hb5'; have s0 := HC.out _ hb5))
  all_goals
    go_wp2_with fail
    go_ret
    exact ⟨rfl, hb5⟩
set_option maxRecDepth 100000 in
set_option maxHeartbeats 2000000 in
theorem fault14 (D : Nat) (n : Int) (st : Ds) (φ : Nat → Prop) (w : World) (h : DK w φ D st) (hn : n ≤ 9223372036854775807) :
    Calls Try.prog 14 #[.pointer (some ⟨D, 0, none⟩), .int .i64 n] w fun e w' => e = .returned (.tuple #[]) ∧ DK w' φ D { st with fault := max (-1) n } ∧ Kp φ w w' := by
  obtain ⟨hφ, bn, bs, vp, Q, hk⟩ := h
  have c6 : w.cell? ⟨D, 6, none⟩ = some (.int .i64 st.fault) := hk.d.at_ rfl
  have f6 := hk.d.frozen 6
  have HF : Hid (∀ w0, w0 = w.setCell ⟨D, 6, none⟩ (.int .i64 (max (-1) n)) → DK w0 φ D { st with fault := max (-1) n } ∧ Kp φ w w0) := by
    refine Lib.hid fun w0 h0 => ?_
    have k : Kp (fun x => x = D) w w0 := by rw [h0]; exact Kp.set _ w D 6 _ rfl
    have hi := hk.inv
    refine ⟨⟨fun x hx => Nat.lt_of_lt_of_le (hφ x hx) k.size, bn, bs, vp, Q, hk.cells (by rw [h0]; exact hk.d.set 6 _) (fun x hx _ hl => k.block x hl hx) rfl rfl rfl rfl ⟨hi.dir, hi.sure, hi.acts, hi.risd, hi.riss, hi.one, hi.ones, hi.fs, hi.quota, hi.fuse, by show -1 ≤ max (-1) n ∧ max (-1) n ≤ 9223372036854775807; omega, hi.steps⟩⟩, k.mono fun x _ e => by rw [e]; exact hk.pd⟩
  clear hk hφ
  go_enter Try.func14, Try.ntmps14
  go_wp2_with fail
  go_end0
  exact ⟨rfl, HF.out _ rfl⟩
set_option maxRecDepth 100000 in
set_option maxHeartbeats 2000000 in
theorem fuse25 (D : Nat) (n : Int) (st : Ds) (φ : Nat → Prop) (w : World) (h : DK w φ D st) (hn : n ≤ 9223372036854775807) :
    Calls Try.prog 25 #[.pointer (some ⟨D, 0, none⟩), .int .i64 n] w fun e w' => e = .returned (.tuple #[]) ∧ DK w' φ D { st with fuse := max (-1) n } ∧ Kp φ w w' := by
  obtain ⟨hφ, bn, bs, vp, Q, hk⟩ := h
  have c6 : w.cell? ⟨D, 5, none⟩ = some (.int .i64 st.fuse) := hk.d.at_ rfl
  have f6 := hk.d.frozen 5
  have HF : Hid (∀ w0, w0 = w.setCell ⟨D, 5, none⟩ (.int .i64 (max (-1) n)) → DK w0 φ D { st with fuse := max (-1) n } ∧ Kp φ w w0) := by
    refine Lib.hid fun w0 h0 => ?_
    have k : Kp (fun x => x = D) w w0 := by rw [h0]; exact Kp.set _ w D 5 _ rfl
    have hi := hk.inv
    refine ⟨⟨fun x hx => Nat.lt_of_lt_of_le (hφ x hx) k.size, bn, bs, vp, Q, hk.cells (by rw [h0]; exact hk.d.set 5 _) (fun x hx _ hl => k.block x hl hx) rfl rfl rfl rfl ⟨hi.dir, hi.sure, hi.acts, hi.risd, hi.riss, hi.one, hi.ones, hi.fs, hi.quota, by show -1 ≤ max (-1) n ∧ max (-1) n ≤ 9223372036854775807; omega, hi.fault, hi.steps⟩⟩, k.mono fun x _ e => by rw [e]; exact hk.pd⟩
  clear hk hφ
  go_enter Try.func25, Try.ntmps25
  go_wp2_with fail
  go_end0
  exact ⟨rfl, HF.out _ rfl⟩
def listL (st : Ds) : List En := if st.off = true then [] else st.dir
set_option maxRecDepth 100000 in
set_option maxHeartbeats 2000000 in
theorem list24 (D : Nat) (st : Ds) (φ : Nat → Prop) (w : World) (h : DK w φ D st) (hl : st.dir.length ≤ 1000000) :
    Calls Try.prog 24 #[.pointer (some ⟨D, 0, none⟩)] w fun e w' => ∃ v, e = .returned v ∧ w'.ownsRow w.heap.size 9 1 v (listL st).length ((listL st).map fun p => .string p.n) ∧ Below w.heap.size w w' := by
  obtain ⟨hφ, bn, bs, vp, Q, hk⟩ := h
  have c4 : w.cell? ⟨D, 4, none⟩ = some (.bool st.off) := hk.d.at_ rfl
  have c1 : w.cell? ⟨D, 1, none⟩ = some (.map (some bn)) := hk.d.at_ rfl
  cases hoff : st.off with
  | true =>
    rw [hoff] at c4
    have HE : Hid (listL st = []) := Lib.hid (by unfold listL; rw [if_pos hoff])
    clear hk hφ hoff
    rw [HE.out]
    go_enter Try.func24, Try.ntmps24
    go_wp2_with fail
    go_ret
    exact ⟨.slice none 0 0, rfl, World.ownsRow_nil _ _ _ _, Below.refl _ _⟩
  | false =>
    have noff : ¬ st.off = true := by rw [hoff]; decide
    rw [hoff] at c4
    have HE : Hid (listL st = st.dir) := Lib.hid (by unfold listL; rw [if_neg noff])
    rw [HE.out]
    have hk61 := keys61 (some bn) w
    have hs60 := sorted60 bn (Fq Q) st.dir w hk.now.m hk.inv.risd hl
    clear hk hφ hoff noff
    go_enter Try.func24, Try.ntmps24
    go_wp2_with fail
    refine hk61.mono ?_
    clear hk61
    rintro e w3 ⟨rfl, rfl⟩
    go_wp2_with fail
    refine hs60.mono ?_
    clear hs60
    rintro e w3 ⟨v, rfl, hrow, hb3⟩
    have HO := Lib.hid (And.intro (own_base hrow (Nat.le_succ _)) hb3)
    clear hrow hb3
    go_wp2_with fail
    go_ret
    exact ⟨v, rfl, HO.out.1, HO.out.2⟩

section
variable {w0 w w' : World} {D : Nat} {st : Ds}
theorem At.still {st' : Ds} {φ : Nat → Prop} (h1 : Below w0.heap.size w0 w) (h3 : ∀ x, φ x → w0.heap.size ≤ x) (hd : DK w' φ D st') (k : Kp φ w w') : At w0 w' D st' :=
  ⟨h1.trans (k.below h1.size fun x hx hp => by have := h3 x hp; omega), φ, hd, h3⟩
theorem At.room (h : At w0 w D st) (hu : usedL st.fs st.dir ≤ 1000000000) : Calls Try.prog 20 #[.pointer (some ⟨D, 0, none⟩)] w fun e w' => e = .returned (.int .i64 (roomV st)) ∧ At w0 w' D st := by
  obtain ⟨h1, φ, h2, h3⟩ := h
  refine (room20 D st φ w h2 hu).mono ?_
  rintro e w' ⟨rfl, hb⟩
  exact ⟨rfl, At.below ⟨h1, φ, h2, h3⟩ hb⟩
theorem At.fault (h : At w0 w D st) (n : Int) (hn : n ≤ 9223372036854775807) : Calls Try.prog 14 #[.pointer (some ⟨D, 0, none⟩), .int .i64 n] w fun e w' => e = .returned (.tuple #[]) ∧ At w0 w' D { st with fault := max (-1) n } := by
  obtain ⟨h1, φ, h2, h3⟩ := h
  refine (fault14 D n st φ w h2 hn).mono ?_
  rintro e w' ⟨rfl, hd, hk⟩
  exact ⟨rfl, At.still h1 h3 hd hk⟩
theorem At.fuse (h : At w0 w D st) (n : Int) (hn : n ≤ 9223372036854775807) : Calls Try.prog 25 #[.pointer (some ⟨D, 0, none⟩), .int .i64 n] w fun e w' => e = .returned (.tuple #[]) ∧ At w0 w' D { st with fuse := max (-1) n } := by
  obtain ⟨h1, φ, h2, h3⟩ := h
  refine (fuse25 D n st φ w h2 hn).mono ?_
  rintro e w' ⟨rfl, hd, hk⟩
  exact ⟨rfl, At.still h1 h3 hd hk⟩
theorem At.list (h : At w0 w D st) (hl : st.dir.length ≤ 1000000) : Calls Try.prog 24 #[.pointer (some ⟨D, 0, none⟩)] w fun e w' => ∃ v, e = .returned v ∧ w'.ownsRow w.heap.size 9 1 v (listL st).length ((listL st).map fun p => .string p.n) ∧ At w0 w' D st := by
  obtain ⟨h1, φ, h2, h3⟩ := h
  refine (list24 D st φ w h2 hl).mono ?_
  rintro e w' ⟨v, rfl, hown, hb⟩
  exact ⟨v, rfl, hown, At.below ⟨h1, φ, h2, h3⟩ hb⟩
end

/-! ### a disk of one file -/
def one (q : Int) (b : List Nat) (s : Nat) (S : List En) (X : List Ac) (off : Bool) (fu fa : Int) (k : Int) : Ds := ⟨q, [⟨b, s⟩], [⟨nA, 0⟩], S, X, off, fu, fa, k⟩
theorem one_new (q : Int) (h : 0 ≤ q ∧ q ≤ 67108864) : nx (newD q) 0 nA noname [] = one q [] 0 [] [⟨0, nA, noname, 0⟩] false (-1) (-1) 1 ∧ ans (newD q) 0 nA noname [] = 0 := by
  have e : newD q = ⟨q, [], [], [], [], false, -1, -1, 0⟩ := by unfold newD; rw [show min (max 0 q) 67108864 = q by omega]
  rw [e]
  exact ⟨rfl, rfl⟩
theorem one_own {q : Int} {b : List Nat} {s : Nat} {S : List En} {X : List Ac} {off : Bool} {fu fa k : Int} {c : List Nat} (h : b.length + c.length ≤ 16777216) (hq : ((b.length + c.length : Nat) : Int) ≤ q) : ownE (one q b s S X off fu fa k) 1 nA noname c = 0 := by
  have e1 : fnd nA.data.toList (one q b s S X off fu fa k).dir = some 0 := rfl
  have e2 : fl (one q b s S X off fu fa k).fs 0 = ⟨b, s⟩ := rfl
  have e3 : usedL (one q b s S X off fu fa k).fs (one q b s S X off fu fa k).dir = b.length := by
    show ([b.length] : List Nat).sum = b.length
    simp
  unfold ownE
  simp only [e1, e2, e3]
  rw [if_neg (by omega), if_neg (by show ¬ q < _; omega)]
theorem one_append {q : Int} {b : List Nat} {s : Nat} {S : List En} {X : List Ac} {fu fa k : Int} {c : List Nat} (h : b.length + c.length ≤ 16777216) (hq : ((b.length + c.length : Nat) : Int) ≤ q) (hfu : fu ≠ 0) (hfa : fa ≠ 0) :
    nx (one q b s S X false fu fa k) 1 nA noname c = one q (b ++ c) s S X false (less fu) (less fa) (k + 1) ∧ ans (one q b s S X false fu fa k) 1 nA noname c = 0 := by
  unfold nx ans
  rw [one_own h hq]
  unfold stepS stepE
  have e1 : (one q b s S X false fu fa k).off = false := rfl
  have e2 : (one q b s S X false fu fa k).fuse = fu := rfl
  have e3 : (one q b s S X false fu fa k).fault = fa := rfl
  rw [e1, e2, e3]
  simp only [Bool.false_eq_true, if_false, hfu, hfa, ne_eq, not_true_eq_false]
  exact ⟨rfl, trivial⟩
theorem one_sync {q : Int} {b : List Nat} {s : Nat} {S : List En} {X : List Ac} {fu fa k : Int} (hfu : fu ≠ 0) (hfa : fa ≠ 0) :
    nx (one q b s S X false fu fa k) 2 nA noname [] = one q b b.length S X false (less fu) (less fa) (k + 1) ∧ ans (one q b s S X false fu fa k) 2 nA noname [] = 0 := by
  unfold nx ans
  have e0 : ownE (one q b s S X false fu fa k) 2 nA noname [] = 0 := rfl
  rw [e0]
  unfold stepS stepE
  have e1 : (one q b s S X false fu fa k).off = false := rfl
  have e2 : (one q b s S X false fu fa k).fuse = fu := rfl
  have e3 : (one q b s S X false fu fa k).fault = fa := rfl
  rw [e1, e2, e3]
  simp only [Bool.false_eq_true, if_false, hfu, hfa, ne_eq, not_true_eq_false]
  exact ⟨rfl, trivial⟩
end Go.Proofs.Ytedjfbkfaioihaa
