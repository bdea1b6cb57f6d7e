/- What every row of calls makes of a table of plans, what each answers, and its bytes. Without conditions. -/
import Derived.Test.YtghklmhmhekjgaaRdrop
import Derived.Test.YtghklmhmhekjgaaBack
import Derived.Test.YtghklmhmhekjgaaOpenO
import Derived.Test.YtghklmhmhekjgaaRpack
import Derived.Test.YtghklmhmhekjgaaPack
import Derived.Test.YtghklmhmhekjgaaUnpack
import Derived.Test.YtghklmhmhekjgaaSame
import Derived.Test.YtghklmhmhekjgaaRread
import Derived.Test.YtghklmhmhekjgaaBytesC
import Derived.Test.YtghklmhmhekjgaaAlive
import Derived.Test.YtghklmhmhekjgaaRows
import Derived.Test.YtghklmhmhekjgaaChecked
namespace Go.Proofs.Ytghklmhmhekjgaa.plansPlay
open Go.ChangeShapes Go.WideShapes Go.ChangeAt Go.RowKit Go.Deep PC

theorem exp_good (now : Int) {M : List Pl} (h : Good M) : Good (expL now M) :=
  ⟨fun p hp => h.ok p (List.mem_filter.1 hp).1, Nat.le_trans (List.length_filter_le _ _) h.len, h.ris.filter _⟩
theorem del_good (n : List UInt8) {M : List Pl} (h : Good M) : Good (delp n M) :=
  ⟨fun p hp => h.ok p (List.mem_filter.1 hp).1, Nat.le_trans (delp_le n M) h.len, ris_del h.ris n⟩
def other : ByteArray := ⟨#[111, 116, 104, 101, 114]⟩

/-- What holds at a round's head. -/
structure St (w : World) (T b To bo P base : Nat) (M Mo : List Pl) (wr : World) : Prop where
  g : Good M
  go_ : Good Mo
  t : Tb wr T b M
  o : Tb wr To bo Mo
  r : Rt wr P base M
  bl : Below w.heap.size w wr
  o1 : w.heap.size ≤ b ∧ w.heap.size ≤ bo ∧ w.heap.size ≤ P ∧ w.heap.size ≤ T ∧ w.heap.size ≤ To
  o2 : b < base ∧ bo < base ∧ P < base ∧ T < base ∧ To < base ∧ base ≤ wr.heap.size
  o3 : b ≠ bo ∧ b ≠ P ∧ bo ≠ P ∧ T ≠ b ∧ T ≠ bo ∧ T ≠ P ∧ To ≠ b ∧ To ≠ bo ∧ To ≠ P

theorem tb_drew {w : World} {T b : Nat} {L : List Pl} (h : Tb w T b L) : Tb w.drew T b L := h.keep rfl rfl
section
variable {w wr w' : World} {T b To bo P base : Nat} {M Mo M' : List Pl}
theorem St.below (h : St w T b To bo P base M Mo wr) (k : Below wr.heap.size wr w') : St w T b To bo P base M Mo w' :=
  ⟨h.g, h.go_, h.t.below k h.t.lt.1 h.t.lt.2, h.o.below k h.o.lt.1 h.o.lt.2, h.r.below k, h.bl.trans (k.mono h.bl.size), h.o1, ⟨h.o2.1, h.o2.2.1, h.o2.2.2.1, h.o2.2.2.2.1, h.o2.2.2.2.2.1, Nat.le_trans h.o2.2.2.2.2.2 k.size⟩, h.o3⟩
/-- The other table has turned. -/
theorem St.other (h : St w T b To bo P base M Mo wr) (k : Kp (fun x => x = bo) wr w') (hT : Tb w' To bo M') (hg : Good M') : St w T b To bo P base M M' w' := by
  have h1 := h.o1; have h2 := h.o2; have h3 := h.o3
  exact ⟨h.g, hg, h.t.kp k (by omega) (by omega), hT, h.r.kp k (by omega) (by intro x hx e; omega), h.bl.trans (k.below h.bl.size (by intro x hx e; omega)), h1, ⟨h2.1, h2.2.1, h2.2.2.1, h2.2.2.2.1, h2.2.2.2.2.1, Nat.le_trans h2.2.2.2.2.2 k.size⟩, h3⟩
/-- Both have turned: the table, then the reference's. -/
theorem St.both {w1 w2 : World} (h : St w T b To bo P base M Mo wr) (k1 : Kp (fun x => x = b) wr w1) (hT : Tb w1 T b M') (k2 : Kp (fun x => x = P) w1 w2) (hR : Rt w2 P base M') (hg : Good M') : St w T b To bo P base M' Mo w2 := by
  have h1 := h.o1; have h2 := h.o2; have h3 := h.o3
  have s1 := k1.size
  have hb1 : Below w.heap.size w w1 := h.bl.trans (k1.below h.bl.size (by intro x hx e; omega))
  exact ⟨hg, h.go_, hT.kp k2 (by omega) (by omega), (h.o.kp k1 (by omega) (by omega)).kp k2 (by omega) (by omega), hR, hb1.trans (k2.below hb1.size (by intro x hx e; omega)), h1, ⟨h2.1, h2.2.1, h2.2.2.1, h2.2.2.2.1, h2.2.2.2.2.1, Nat.le_trans h2.2.2.2.2.2 (Nat.le_trans s1 k2.size)⟩, h3⟩
/-- The table has turned; the reference's has not yet. -/
theorem rt_first {w1 : World} (h : St w T b To bo P base M Mo wr) (k1 : Kp (fun x => x = b) wr w1) : Rt w1 P base M ∧ base ≤ w1.heap.size := by
  have h1 := h.o1; have h2 := h.o2; have h3 := h.o3
  exact ⟨h.r.kp k1 (by omega) (by intro x hx e; omega), Nat.le_trans h2.2.2.2.2.2 k1.size⟩
end

/-- While the list is cleared. -/
def Clr (w5 : World) (A2 : Option Addr) (n c : Nat) (wl : World) : Prop :=
  Kp (fun x => ∃ off, A2 = some ⟨x, off, none⟩) w5 wl ∧ (0 < n → ∃ g off cur, A2 = some ⟨g, off, none⟩ ∧ off = 0 ∧ Arr wl g 27 cur ∧ cur.size = c * 4 ∧ n ≤ c)
theorem Clr.set {w5 wl : World} {A2 : Option Addr} {n c g off i : Nat} (h : Clr w5 A2 n c wl) (hA : A2 = some ⟨g, off, none⟩) (v : Value) : Clr w5 A2 n c (wl.setCell ⟨g, i, none⟩ v) := by
  refine ⟨h.1.setCell (p := ⟨g, i, none⟩) (.inl ⟨off, hA⟩) v, fun hn => ?_⟩
  obtain ⟨g', off', cur, e, h0, ha, hc, hnc⟩ := h.2 hn
  rw [hA] at e
  injection e with e
  injection e with e1 e2
  subst e1; subst e2
  exact ⟨g, off, _, hA, h0, ha.set i v, by simpa using hc, hnc⟩
theorem Clr.start {w : World} {base n c : Nat} {A : Option Addr} {xs : List Value} (h : w.ownsRow base 27 4 (.slice A n c) n xs) : Clr w A n c w := by
  refine ⟨Kp.refl _ _, fun hn => ?_⟩
  obtain ⟨r, cap, cur, e, _, ha, hnc, _, hcs, _⟩ := own_form h hn
  injection e with e1 e2 e3
  subst e3
  exact ⟨r, 0, cur, e1, rfl, ha, hcs, hnc⟩

set_option maxRecDepth 100000 in
set_option maxHeartbeats 8000000 in
theorem walk (A0 : Option Addr) (n0 c0 : Nat) (l : List Opn) (w : World) (h0 : Ov w w.heap.size A0 n0 l) (f0 : FitO n0 l) :
    Calls Try.prog 6 #[.slice A0 n0 c0] w fun e w' => e = .returned (.bool true) ∧ Below w.heap.size w w' := by
  have hal := alive7 w
  by_cases b0 : 300 < n0
  · have d0 : decide (300 < ((n0 : Nat) : Int)) = true := decide_eq_true (by omega)
    go_enter Try.func6, Try.ntmps6
    go_wp2_with fail
    refine hal.mono ?_
    rintro e w1 ⟨rfl, hb1⟩
    go_wp2_with fail
    go_ret
    exact ⟨rfl, hb1⟩
  · have d0 : decide (300 < ((n0 : Nat) : Int)) = false := decide_eq_false (by omega)
    have hn0 : n0 ≤ 300 := by omega
    go_enter Try.func6, Try.ntmps6
    go_wp2_with fail
    refine hal.mono ?_
    rintro e w1 ⟨rfl, hb1⟩
    have hnw := new8 w1
    clear hal
    go_wp2_with fail
    refine hnw.mono ?_
    rintro e w2 ⟨rfl, hT2, hb2⟩
    have hno := new8 w2
    clear hnw
    go_wp2_with fail
    refine hno.mono ?_
    rintro e w3 ⟨rfl, hT3, hb3⟩
    clear hno
    obtain ⟨T, hTe⟩ : ∃ T, T = w1.heap.size + 1 := ⟨_, rfl⟩
    obtain ⟨b, hbe⟩ : ∃ b, b = w1.heap.size := ⟨_, rfl⟩
    obtain ⟨To, hToe⟩ : ∃ T, T = w2.heap.size + 1 := ⟨_, rfl⟩
    obtain ⟨bo, hboe⟩ : ∃ b, b = w2.heap.size := ⟨_, rfl⟩
    rw [← hTe, ← hbe] at hT2
    rw [← hToe, ← hboe] at hT3
    rw [← hTe, ← hToe]
    have HST : Hid (St w T b To bo w3.heap.size (w3.heap.size + 1) [] [] (w3.alloc (.cells #[.slice none 0 0] 46))) := by
      refine Lib.hid ?_
      have s1 := hb1.size
      have s2 := hb2.size
      have s3 := hb3.size
      have l2 := hT2.lt
      have l3 := hT3.lt
      have hb4 : Below w3.heap.size w3 (w3.alloc (.cells #[.slice none 0 0] 46)) := (Below.refl _ _).alloc (Nat.le_refl _) _
      refine ⟨good_nil, good_nil, (hT2.below hb3 l2.1 l2.2).below hb4 (by omega) (by omega), hT3.below hb4 l3.1 l3.2, ⟨none, 0, 0, Arr.new w3 46 _, World.ownsRow_nil _ _ _ _⟩, ?_, by omega, by simp; omega, by omega⟩
      exact hb1.trans ((hb2.trans ((hb3.trans (hb4.mono (by omega))).mono (by omega))).mono (by omega))
    clear hT2 hT3 hTe hbe hToe hboe hb1 hb2 hb3
    obtain ⟨P, hP⟩ : ∃ P, P = w3.heap.size := ⟨_, rfl⟩
    obtain ⟨base, hbase⟩ : ∃ base, base = w3.heap.size + 1 := ⟨_, rfl⟩
    rw [← hbase, ← hP] at HST
    have HPB := Lib.hid (And.intro hP hbase)
    clear hP hbase
    go_wp2_with fail
    rw [← HPB.out.1]
    go_loopw [7] (fun i wr => ∃ (k : Nat) (M Mo : List Pl), k ≤ n0 ∧ i = .int .i64 k ∧ Hid (St w T b To bo P base M Mo wr)) (fun i _ => n0 - (intOf i).toNat)
    case atStart => exact ⟨0, [], [], Nat.zero_le _, rfl, HST⟩
    case round =>
      obtain ⟨k, M, Mo, hk, rfl, HS⟩ := hrel
      clear HST HPB
      by_cases hlt : k < n0
      · obtain ⟨b1, off, rfl, hb1lt, hcs⟩ := (h0.below HS.out.bl).2 (by omega)
        have hkl : k < l.length := by have := h0.1; omega
        obtain ⟨x, hx⟩ : ∃ x, l[k]? = some x := ⟨_, List.getElem?_eq_getElem hkl⟩
        obtain ⟨g0, g1, g2, g3, g4, g5⟩ := hcs k x hx
        have hps : x.p.n.size ≤ 1000000000000000 := f0.2 x (List.mem_of_getElem? hx)
        obtain ⟨kd, nn, n, f, t, r⟩ := x
        simp only at g0 g1 g2 g3 g4 g5 hps
        clear hx hcs
        have z0 : (0 : Int) ≤ (k : Int) := by omega
        have z1 : (k : Int) < (n0 : Int) := by omega
        by_cases hbig : 1000 < n.size
        · have d1 : decide (1000 < ((n.size : Nat) : Int)) = true := decide_eq_true (by omega)
          have HB := Lib.hid HS.out.bl
          go_wp2_with fail
          go_ret
          exact ⟨rfl, HB.out.alloc HB.out.size _⟩
        · have d1 : decide (1000 < ((n.size : Nat) : Int)) = false := decide_eq_false (by omega)
          have hbx : Below wr.heap.size wr (wr.alloc (.cells #[.int .i64 kd, .int .i64 nn, .string n, .int .i64 f, .int .i64 t, .int .i64 r] 48)) := (Below.refl _ _).alloc (Nat.le_refl _) _
          have hS1 := HS.out.below hbx
          have hA1 : Arr (wr.alloc (.cells #[.int .i64 kd, .int .i64 nn, .string n, .int .i64 f, .int .i64 t, .int .i64 r] 48)) wr.heap.size 48 #[.int .i64 kd, .int .i64 nn, .string n, .int .i64 f, .int .i64 t, .int .i64 r] := Arr.new wr 48 _
          have hpo := put10 To bo other 0 (k + 1) 0 Mo _ hS1.o (by decide) (by have := hS1.go_.len; omega)
          have HX := Lib.hid (And.intro hS1 hA1)
          have hbs : base ≤ wr.heap.size := HS.out.o2.2.2.2.2.2
          have hns : n.size ≤ 1000 := by omega
          clear hS1 hA1 hbx
          unfold other at hpo
          go_wp2_with fail
          refine hpo.mono ?_
          rintro e w2 ⟨rfl, hTo, hko⟩
          have hS2 := HX.out.1.other hko hTo (putL_good HX.out.1.go_ _)
          have hA2 := HX.out.2.kp hko (by have := HS.out.o2; omega)
          have c0 : w2.cell? ⟨wr.heap.size, 0, none⟩ = some (.int .i64 kd) := hA2.at_ rfl
          have c1 : w2.cell? ⟨wr.heap.size, 1, none⟩ = some (.int .i64 nn) := hA2.at_ rfl
          have c2 : w2.cell? ⟨wr.heap.size, 2, none⟩ = some (.string n) := hA2.at_ rfl
          have c3 : w2.cell? ⟨wr.heap.size, 3, none⟩ = some (.int .i64 f) := hA2.at_ rfl
          have c4 : w2.cell? ⟨wr.heap.size, 4, none⟩ = some (.int .i64 t) := hA2.at_ rfl
          have c5 : w2.cell? ⟨wr.heap.size, 5, none⟩ = some (.int .i64 r) := hA2.at_ rfl
          have HX2 := Lib.hid (And.intro hS2 hA2)
          have HG := Lib.hid hS2.g
          clear hpo hTo hko hS2 hA2 g0 g1 g2 g3 g4 g5 HX
          obtain ⟨wo, hwo⟩ : ∃ wo, wo = wr.heap.size := ⟨_, rfl⟩
          rw [← hwo] at c0 c1 c2 c3 c4 c5 HX2 hbs
          rw [← hwo]
          have HWO := Lib.hid hwo
          clear hwo HS
          cases e0 : (bits .and .i64 kd 3 == 0)
          · cases e1 : (bits .and .i64 kd 3 == 1)
            · cases e2 : (bits .and .i64 kd 3 == 2)
              · have hac := active12 T b nn M w2.drew (tb_drew HX2.out.1.t) (by have := HG.out.len; omega)
                have hrc : Hid (∀ W, Below w2.drew.heap.size w2.drew W → Calls Try.prog 23 #[.pointer (some ⟨P, 0, none⟩), .int .i64 nn] W fun e w' => e = .returned (.int .i64 (actv nn M)) ∧ Below W.heap.size W w') := by
                  refine Lib.hid fun W hb => ?_
                  exact ractive23 P base nn M W (HX2.out.1.r.below ((Below.refl _ w2).drew.trans hb)) (by have := HG.out.len; omega)
                have HC : Hid (∀ W, Below w2.drew.heap.size w2.drew W → W.cell? ⟨wo, 1, none⟩ = some (.int .i64 nn)) := by
                  refine Lib.hid fun W hb => ?_
                  exact (HX2.out.2.below ((Below.refl _ w2).drew.trans hb) HX2.out.2.lt).at_ rfl
                obtain ⟨av, hav⟩ : ∃ av, av = actv nn M := ⟨_, rfl⟩
                rw [← hav] at hac hrc
                have n1 : (av != av) = false := by simp
                clear hav c2 c3 c4 c5
                go_wp2_with fail
                go_region_held3 (fun w' => w'.cell? ⟨wo, 1, none⟩ = some (.int .i64 nn)) (first | go_keep | exact s0 | exact p0) (first | (go_at_call 12; refine hac.mono ?_; rintro r1 w5 ⟨rfl, hb5⟩; have s0 := HC.out _ hb5; have hrc5 := hrc.out _ hb5) | (go_at_call 23; refine hrc5.mono ?_; rintro r2 w6 ⟨rfl, hb6⟩; have p0 := HC.out _ (hb5.trans (hb6.mono hb5.size))))
                all_goals
                  go_wp2_with fail
                  go_roundw
                  case rel => exact ⟨k + 1, _, _, by omega, by go_num, Lib.hid ((HX2.out.1.below (Below.refl _ w2).drew).below (hb5.trans (hb6.mono hb5.size)))⟩
                  case measure => simp [intOf]; omega
              · have hex := expire21 T b nn M w2.drew (tb_drew HX2.out.1.t) (by have := HG.out.len; omega)
                have hrc : Hid (∀ W, Kp (fun x => x = b) w2.drew W → Calls Try.prog 22 #[.pointer (some ⟨P, 0, none⟩), .int .i64 nn] W (REPost W P base nn M)) := by
                  refine Lib.hid fun W hb => ?_
                  have hr := rt_first (HX2.out.1.below (Below.refl _ w2).drew) hb
                  exact rexpire22 P base nn M W hr.1 hr.2 (by have := HG.out.len; omega)
                have HC : Hid (∀ W, Kp (fun x => x = b ∨ x = P) w2.drew W → W.cell? ⟨wo, 1, none⟩ = some (.int .i64 nn)) := by
                  refine Lib.hid fun W hb => ?_
                  exact ((HX2.out.2).drew.kp hb (by have := HX2.out.1.o2; omega)).at_ rfl
                unfold REPost at hrc
                obtain ⟨av, hav⟩ : ∃ av : Int, av = (expN nn M : Nat) := ⟨_, rfl⟩
                rw [← hav] at hex hrc
                have n1 : (av != av) = false := by simp
                clear hav c2 c3 c4 c5
                go_wp2_with fail
                go_region_held3 (fun w' => w'.cell? ⟨wo, 1, none⟩ = some (.int .i64 nn)) (first | go_keep | exact s0 | exact p0) (first | (go_at_call 21; refine hex.mono ?_; rintro r1 w5 ⟨rfl, hT5, hk5⟩; have s0 := HC.out _ (hk5.mono fun _ _ h => .inl h); have hrc5 := hrc.out _ hk5) | (go_at_call 22; refine hrc5.mono ?_; rintro r2 w6 ⟨rfl, hR6, hk6⟩; have p0 := HC.out _ ((hk5.mono fun _ _ h => .inl h).trans (hk6.mono fun _ _ h => .inr h) (fun _ _ h => h))))
                all_goals
                  go_wp2_with fail
                  go_roundw
                  case rel => exact ⟨k + 1, _, _, by omega, by go_num, Lib.hid ((HX2.out.1.below (Below.refl _ w2).drew).both hk5 hT5 hk6 hR6 (exp_good _ HG.out))⟩
                  case measure => simp [intOf]; omega
            · have hd := drop19 T b n M w2 HX2.out.1.t (by omega)
              have hrc : Hid (∀ W, Kp (fun x => x = b) w2 W → Calls Try.prog 20 #[.pointer (some ⟨P, 0, none⟩), .string n] W (RDPost W P base n.data.toList M)) := by
                refine Lib.hid fun W hb => ?_
                have hr := rt_first HX2.out.1 hb
                exact rdrop20 P base n M W hr.1 hr.2 (by have := HG.out.len; omega)
              have HC : Hid (∀ W, Kp (fun x => x = b ∨ x = P) w2 W → W.cell? ⟨wo, 2, none⟩ = some (.string n)) := by
                refine Lib.hid fun W hb => ?_
                exact (HX2.out.2.kp hb (by have := HX2.out.1.o2; omega)).at_ rfl
              unfold TDPost at hd
              unfold RDPost at hrc
              obtain ⟨av, hav⟩ : ∃ av : Int, av = dropE n.data.toList M := ⟨_, rfl⟩
              rw [← hav] at hd hrc
              have n1 : (av != av) = false := by simp
              clear hav
              go_wp2_with fail
              refine hd.mono ?_
              rintro e w3 ⟨rfl, hT3, hk3⟩
              have q0 := HC.out _ (hk3.mono fun _ _ h => .inl h)
              have hrc3 := hrc.out w3.drew hk3.drew
              clear c0 c1 c2 c3 c4 c5 hd
              go_wp2_with fail
              go_region_held3 (fun w' => w'.cell? ⟨wo, 2, none⟩ = some (.string n)) (first | go_keep | exact p0) (first | (go_at_call 11; refine (num11 _ _).mono ?_; rintro r0 w5 ⟨rfl, rfl⟩) | (go_at_call 20; refine hrc3.mono ?_; rintro r2 w6 ⟨rfl, hR6, hk6⟩; have p0 := HC.out _ ((hk3.drew.mono fun _ _ h => .inl h).trans (hk6.mono fun _ _ h => .inr h) (fun _ _ h => h))))
              all_goals
                go_wp2_with fail
                go_roundw
                case rel => exact ⟨k + 1, _, _, by omega, by go_num, Lib.hid (HX2.out.1.both (w1 := w3.drew) hk3.drew (tb_drew hT3) hk6 hR6 (del_good _ HG.out))⟩
                case measure => simp [intOf]; omega
          · have hp := put10 T b n f t r M w2 HX2.out.1.t (by omega) (by have := HG.out.len; omega)
            go_wp2_with fail
            refine hp.mono ?_
            rintro e w3 ⟨rfl, hT3, hk3⟩
            have hck := check17 n f t r w3 (by omega)
            unfold CPost at hck
            have hA3 := HX2.out.2.kp hk3 (by have := HX2.out.1.o2; omega)
            have q0 : w3.cell? ⟨wo, 2, none⟩ = some (.string n) := hA3.at_ rfl
            have q1 : w3.cell? ⟨wo, 3, none⟩ = some (.int .i64 f) := hA3.at_ rfl
            have q2 : w3.cell? ⟨wo, 4, none⟩ = some (.int .i64 t) := hA3.at_ rfl
            have q3 : w3.cell? ⟨wo, 5, none⟩ = some (.int .i64 r) := hA3.at_ rfl
            have HX3 := Lib.hid (And.intro hT3 (And.intro hk3 hA3))
            clear hp hT3 hk3 hA3 c0 c1 c2 c3 c4 c5
            go_wp2_with fail
            refine hck.mono ?_
            rintro e w4 ⟨rfl, hb4⟩
            have hA4 := HX3.out.2.2.below hb4 HX3.out.2.2.lt
            have q0 : w4.cell? ⟨wo, 2, none⟩ = some (.string n) := hA4.at_ rfl
            have q1 : w4.cell? ⟨wo, 3, none⟩ = some (.int .i64 f) := hA4.at_ rfl
            have q2 : w4.cell? ⟨wo, 4, none⟩ = some (.int .i64 t) := hA4.at_ rfl
            have q3 : w4.cell? ⟨wo, 5, none⟩ = some (.int .i64 r) := hA4.at_ rfl
            obtain ⟨hT3, hk3, hA3⟩ := HX3.out
            have hR3 := rt_first HX2.out.1 hk3
            have hR4 := hR3.1.below hb4
            have hT4 := hT3.below hb4 hT3.lt.1 hT3.lt.2
            have hrp := rput18 P base n f t r M w4.drew hR4 (by have := hR3.2; have := hb4.size; show base ≤ w4.heap.size; omega) (by omega) (by have := HG.out.len; omega) HG.out.ris
            have hrc := fun W => rcheck9 n f t r W (by omega)
            unfold CPost at hrc
            unfold RPPost at hrp
            have HRP := Lib.hid (And.intro hrp hrc)
            have HX4 := Lib.hid (And.intro hk3 (And.intro hb4 (And.intro hA4 hT4)))
            have hwo4 : wo < w4.heap.size := hA4.lt
            obtain ⟨pe, hpe⟩ : ∃ pe, pe = putE ⟨n, f, t, r⟩ M := ⟨_, rfl⟩
            obtain ⟨ce, hce⟩ : ∃ ce, ce = chkE n f t r := ⟨_, rfl⟩
            rw [← hpe, ← hce] at HRP
            rw [← hpe, ← hce]
            have HPE := Lib.hid (And.intro hpe hce)
            have HC6 : Hid (∀ W, Kp (fun x => x = P) w4.drew W → W.cell? ⟨wo, 2, none⟩ = some (.string n) ∧ W.cell? ⟨wo, 3, none⟩ = some (.int .i64 f) ∧ W.cell? ⟨wo, 4, none⟩ = some (.int .i64 t) ∧ W.cell? ⟨wo, 5, none⟩ = some (.int .i64 r)) := by
              refine Lib.hid fun W hk => ?_
              have hA := hA4.drew.kp hk (by have := HX2.out.1.o2; omega)
              exact ⟨hA.at_ rfl, hA.at_ rfl, hA.at_ rfl, hA.at_ rfl⟩
            have n1 : (pe != pe) = false := by simp
            have n2 : (ce != ce) = false := by simp
            clear hrp hrc hb4 hA4 hT4 hT3 hk3 hA3 hR3 hR4 hck hpe hce HX3
            go_wp2_with fail
            go_region_held3 (fun w' => w'.cell? ⟨wo, 2, none⟩ = some (.string n) ∧ w'.cell? ⟨wo, 3, none⟩ = some (.int .i64 f) ∧ w'.cell? ⟨wo, 4, none⟩ = some (.int .i64 t) ∧ w'.cell? ⟨wo, 5, none⟩ = some (.int .i64 r)) (first | go_keep | exact ⟨s0, s1, s2, s3⟩ | exact ⟨p0, p1, p2, p3⟩) (first | (go_at_call 11; refine (num11 _ _).mono ?_; rintro r0 w5 ⟨rfl, rfl⟩) | (go_at_call 18; refine HRP.out.1.mono ?_; rintro r1 w6 ⟨rfl, hR6, hk6⟩; obtain ⟨s0, s1, s2, s3⟩ := HC6.out _ hk6) | (go_at_call 9; refine (HRP.out.2 _).mono ?_; rintro r2 w7 ⟨rfl, hb7⟩; have p0 := (hb7.cell (p := ⟨wo, 2, none⟩) (Nat.lt_of_lt_of_le hwo4 hk6.size)).trans s0; have p1 := (hb7.cell (p := ⟨wo, 3, none⟩) (Nat.lt_of_lt_of_le hwo4 hk6.size)).trans s1; have p2 := (hb7.cell (p := ⟨wo, 4, none⟩) (Nat.lt_of_lt_of_le hwo4 hk6.size)).trans s2; have p3 := (hb7.cell (p := ⟨wo, 5, none⟩) (Nat.lt_of_lt_of_le hwo4 hk6.size)).trans s3))
            all_goals
              go_wp2_with fail
              go_roundw
              case rel =>
                obtain ⟨hk3, hb4, hA4, hT4⟩ := HX4.out
                exact ⟨k + 1, _, _, by omega, by go_num, Lib.hid ((HX2.out.1.both (w1 := w4.drew) ((hk3.trans (Kp.none_of_below (S := fun x => x = b) hb4) (fun _ _ h => h)).drew) (tb_drew hT4) hk6 hR6 (putL_good HG.out _)).below hb7)⟩
              case measure => simp [intOf]; omega
      · obtain rfl : k = n0 := by omega
        have hl := list13 T b M wr HS.out.t (by have := HS.out.g.len; omega)
        have HG := Lib.hid HS.out.g
        go_wp2_with fail
        refine hl.mono ?_
        clear hl
        rintro e w2 ⟨v2, rfl, hown2, hb2⟩
        obtain ⟨A2, m2, c2, rfl, ho2⟩ := own_slice3 hown2
        have hm2 := own_len ho2
        have hS2 := HS.out.below hb2
        have hpk := pack24 T b M w2 hS2.t (by have := HG.out.len; omega) HG.out.ok
        have HO2 := Lib.hid (And.intro ho2 (And.intro hm2 hb2))
        have hm2l : m2 ≤ 100 := by have := HG.out.len; omega
        clear hown2 ho2 hm2 hS2 hb2
        go_wp2_with fail
        refine hpk.mono ?_
        clear hpk
        rintro e w3 ⟨v3, rfl, hown3, hb3⟩
        obtain ⟨A3, m3, c3, rfl, ho3⟩ := own_slice3 hown3
        have hb03 : Below wr.heap.size wr w3 := HO2.out.2.2.trans (hb3.mono HO2.out.2.2.size)
        have hS3 := HS.out.below hb03
        obtain ⟨Ar, mr, cr, haP, hor⟩ := HS.out.r
        obtain rfl : mr = m2 := by have := own_len hor; have := HO2.out.2.1; omega
        have haP3 := haP.below hb03 haP.lt
        have hor3 : w3.ownsRow base 27 4 (.slice Ar mr cr) mr (pvs M) := own_kp hor (Kp.none_of_below (S := fun _ => False) hb03) (fun _ _ h => h)
        have ho23 : w3.ownsRow wr.heap.size 27 4 (.slice A2 mr c2) mr (pvs M) := own_kp HO2.out.1 (Kp.none_of_below (S := fun _ => False) hb3) (fun _ _ h => h)
        have hmr := own_len hor
        have hm3 : m3 = (packL M).length := by have := ho3.1; simpa using this.symm
        have hAFT : Hid (∀ W, Below w3.heap.size w3 W → W.cell? ⟨P, 0, none⟩ = some (.slice Ar mr cr) ∧ (convert 36 9 (.slice A3 m3 c3)).run Try.prog W = .ok (.string (strN (packL M))) W) := Lib.hid fun W h =>
          ⟨(haP3.below h haP3.lt).at_ rfl, conv_own (own_kp ho3 (Kp.none_of_below (S := fun _ => False) h) (fun _ _ h => h))⟩
        have hsm := same16 A2 Ar mr c2 cr _ _ M w3.drew (Pv.of_own' (w := w3.drew) (by exact ho23)) (Pv.of_own' (w := w3.drew) (by exact hor3)) (by omega)
        have hrp : Hid (∀ W, Below w3.heap.size w3 W → Calls Try.prog 25 #[.slice Ar mr cr] W fun e w' => ∃ v, e = .returned v ∧ w'.ownsRow W.heap.size 5 1 v (packL M).length ((packL M).map bv) ∧ Below W.heap.size W w') := Lib.hid fun W h =>
          rpack25 Ar mr cr M W (Pv.of_own' (own_kp hor3 (Kp.none_of_below (S := fun _ => False) h) (fun _ _ h => h))) (by have := HG.out.len; omega) HG.out.ok
        have HX := Lib.hid (And.intro hor (And.intro haP (And.intro hb03 (And.intro ho23 (And.intro ho3 (And.intro hm3 hmr))))))
        have hc0 := hAFT.out _ (Below.refl _ w3).drew
        obtain ⟨sb, hsb⟩ : ∃ sb, sb = strN (packL M) := ⟨_, rfl⟩
        rw [← hsb] at hAFT hc0
        have HSB := Lib.hid hsb
        have e1 : (sb.toList != sb.toList) = false := by simp
        clear hown3 ho3 hb3 hb03 hS3 haP haP3 hor hor3 ho23 hmr hm3 hsb
        go_wp2_with fail
        refine wp_region_held_drew (S := fun w' => w'.cell? ⟨P, 0, none⟩ = some (.slice Ar mr cr) ∧ (convert 36 9 (.slice A3 m3 c3)).run Try.prog w' = .ok (.string sb) w') (by kernel_rfl) ⟨hc0.1, hc0.2⟩ (fun hHeld => ?_)
        refine wpAnyH_take (i := 0) (oi := _) (v := ?_) (by rw [List.getElem?_toArray]; rfl) (by kernel_rfl) (by kernel_rfl) (by kernel_rfl) (by exact fun _ _ _ h => h) (Or.inl ⟨by rfl, ?_⟩) (by assumption) ?_
        rotate_left
        · (intro w9 hSw; (try dsimp only at hSw); go_simp; first | done | with_reducible rfl)
        try simp only [Act.put, List.setIfInBounds_toArray, List.set_cons_zero, List.set_cons_succ]
        refine wpAnyH_take (i := 1) (oi := _) (v := ?_) (by rw [List.getElem?_toArray]; rfl) (by kernel_rfl) (by kernel_rfl) (by kernel_rfl) (by exact fun _ _ _ h => h) (Or.inl ⟨by rfl, ?_⟩) (by assumption) ?_
        rotate_left
        · (intro w9 hSw; (try dsimp only at hSw); go_simp; first | done | with_reducible rfl)
        try simp only [Act.put, List.setIfInBounds_toArray, List.set_cons_zero, List.set_cons_succ]
        refine wpAnyH_take (i := 2) (oi := _) (v := ?_) (by rw [List.getElem?_toArray]; rfl) (by kernel_rfl) (by kernel_rfl) (by kernel_rfl) (by exact fun _ _ _ h => h) (Or.inl ⟨by rfl, ?_⟩) (by assumption) ?_
        rotate_left
        · (intro w9 hSw; (try dsimp only at hSw); go_simp; first | done | with_reducible rfl)
        try simp only [Act.put, List.setIfInBounds_toArray, List.set_cons_zero, List.set_cons_succ]
        refine wpAnyH_take (i := 3) (oi := _) (v := ?_) (by rw [List.getElem?_toArray]; rfl) (by kernel_rfl) (by kernel_rfl) (by kernel_rfl) (by exact fun _ _ _ h => h) (Or.inl ⟨by rfl, ?_⟩) (by assumption) ?_
        rotate_left
        · (intro w9 hSw; (try dsimp only at hSw); go_simp; first | done | with_reducible rfl)
        try simp only [Act.put, List.setIfInBounds_toArray, List.set_cons_zero, List.set_cons_succ]
        refine wpAnyH_take (i := 4) (oi := _) (v := ?_) (by rw [List.getElem?_toArray]; rfl) (by kernel_rfl) (by kernel_rfl) (by kernel_rfl) (by exact fun _ _ _ h => h) (Or.inl ⟨by rfl, ?_⟩) (by assumption) ?_
        rotate_left
        · (intro w9 hSw; (try dsimp only at hSw); go_simp; first | done | with_reducible rfl)
        try simp only [Act.put, List.setIfInBounds_toArray, List.set_cons_zero, List.set_cons_succ]
        refine wpAnyH_ready (rs := [5]) (by kernel_rfl) (by simp) ?_
        refine AllReadyH.cons (o := _) (by rw [List.getElem?_toArray]; rfl) (fun K hK => ?_) AllReadyH.nil
        rw [if_pos (by rfl)]
        go_simp
        refine hsm.mono ?_
        rintro e w4 ⟨rfl, q4, hw4⟩
        have hb4 : Below w3.heap.size w3 w4 := by rw [hw4]; exact below_drewN (Below.refl _ w3).drew q4
        have hc4 := hAFT.out w4 hb4
        have hrp4 := hrp.out w4 hb4
        have HW4 := Lib.hid hb4
        clear hw4 hb4
        go_wp2_with fail
        refine hK.out _ _ hc4 (fun hHeld => ?_)
        clear hK K
        try simp only [Act.put, List.setIfInBounds_toArray, List.set_cons_zero, List.set_cons_succ]
        refine wpAnyH_take (i := 6) (oi := _) (v := ?_) (by rw [List.getElem?_toArray]; rfl) (by kernel_rfl) (by kernel_rfl) (by kernel_rfl) (by exact fun _ _ _ h => h) (Or.inl ⟨by rfl, ?_⟩) (by assumption) ?_
        rotate_left
        · (intro w9 hSw; (try dsimp only at hSw); go_simp; first | done | with_reducible rfl)
        try simp only [Act.put, List.setIfInBounds_toArray, List.set_cons_zero, List.set_cons_succ]
        refine wpAnyH_take (i := 7) (oi := _) (v := ?_) (by rw [List.getElem?_toArray]; rfl) (by kernel_rfl) (by kernel_rfl) (by kernel_rfl) (by exact fun _ _ _ h => h) (Or.inl ⟨by rfl, ?_⟩) (by assumption) ?_
        rotate_left
        · (intro w9 hSw; (try dsimp only at hSw); go_simp; first | done | with_reducible rfl)
        try simp only [Act.put, List.setIfInBounds_toArray, List.set_cons_zero, List.set_cons_succ]
        refine wpAnyH_take (i := 8) (oi := _) (v := ?_) (by rw [List.getElem?_toArray]; rfl) (by kernel_rfl) (by kernel_rfl) (by kernel_rfl) (by exact fun _ _ _ h => h) (Or.inl ⟨by rfl, ?_⟩) (by assumption) ?_
        rotate_left
        · (intro w9 hSw; (try dsimp only at hSw); go_simp; first | done | with_reducible rfl)
        try simp only [Act.put, List.setIfInBounds_toArray, List.set_cons_zero, List.set_cons_succ]
        refine wpAnyH_take (i := 9) (oi := _) (v := ?_) (by rw [List.getElem?_toArray]; rfl) (by kernel_rfl) (by kernel_rfl) (by kernel_rfl) (by exact fun _ _ _ h => h) (Or.inl ⟨by rfl, ?_⟩) (by assumption) ?_
        rotate_left
        · (intro w9 hSw; (try dsimp only at hSw); go_simp; first | done | with_reducible rfl)
        try simp only [Act.put, List.setIfInBounds_toArray, List.set_cons_zero, List.set_cons_succ]
        refine wpAnyH_take (i := 10) (oi := _) (v := ?_) (by rw [List.getElem?_toArray]; rfl) (by kernel_rfl) (by kernel_rfl) (by kernel_rfl) (by exact fun _ _ _ h => h) (Or.inl ⟨by rfl, ?_⟩) (by assumption) ?_
        rotate_left
        · (intro w9 hSw; (try dsimp only at hSw); go_simp; first | done | with_reducible rfl)
        try simp only [Act.put, List.setIfInBounds_toArray, List.set_cons_zero, List.set_cons_succ]
        refine wpAnyH_take (i := 11) (oi := _) (v := ?_) (by rw [List.getElem?_toArray]; rfl) (by kernel_rfl) (by kernel_rfl) (by kernel_rfl) (by exact fun _ _ _ h => h) (Or.inl ⟨by rfl, ?_⟩) (by assumption) ?_
        rotate_left
        · (intro w9 hSw; (try dsimp only at hSw); go_simp; first | done | with_reducible rfl)
        try simp only [Act.put, List.setIfInBounds_toArray, List.set_cons_zero, List.set_cons_succ]
        refine wpAnyH_take (i := 12) (oi := _) (v := ?_) (by rw [List.getElem?_toArray]; rfl) (by kernel_rfl) (by kernel_rfl) (by kernel_rfl) (by exact fun _ _ _ h => h) (Or.inl ⟨by rfl, ?_⟩) (by assumption) ?_
        rotate_left
        · (intro w9 hSw; (try dsimp only at hSw); go_simp; first | done | with_reducible rfl)
        try simp only [Act.put, List.setIfInBounds_toArray, List.set_cons_zero, List.set_cons_succ]
        refine wpAnyH_take (i := 13) (oi := _) (v := ?_) (by rw [List.getElem?_toArray]; rfl) (by kernel_rfl) (by kernel_rfl) (by kernel_rfl) (by exact fun _ _ _ h => h) (Or.inl ⟨by rfl, ?_⟩) (by assumption) ?_
        rotate_left
        · (intro w9 hSw; (try dsimp only at hSw); go_simp; first | done | with_reducible rfl)
        try simp only [Act.put, List.setIfInBounds_toArray, List.set_cons_zero, List.set_cons_succ]
        refine wpAnyH_ready (rs := [14]) (by kernel_rfl) (by simp) ?_
        refine AllReadyH.cons (o := _) (by rw [List.getElem?_toArray]; rfl) (fun K hK => ?_) AllReadyH.nil
        rw [if_pos (by rfl)]
        go_simp
        refine hrp4.mono ?_
        rintro e w5 ⟨v5, rfl, hown5, hb5⟩
        have hcv5 := conv_own hown5
        rw [← HSB.out] at hcv5
        have hb45 := HW4.out.trans (hb5.mono HW4.out.size)
        have hc5 := hAFT.out w5 hb45
        have HW5 := Lib.hid hb45
        clear hb45 hown5 hb5 hrp4
        go_wp2_with fail
        refine hK.out _ _ hc5 (fun hHeld => ?_)
        clear hK K
        try simp only [Act.put, List.setIfInBounds_toArray, List.set_cons_zero, List.set_cons_succ]
        refine wpAnyH_ready (rs := [15]) (by kernel_rfl) (by simp) ?_
        refine AllReadyH.cons (o := _) (by rw [List.getElem?_toArray]; rfl) (fun K hK => ?_) AllReadyH.nil
        rw [if_pos (by rfl)]
        go_wp2_with fail
        refine hK.out _ _ hc5 (fun hHeld => ?_)
        clear hK K
        try simp only [Act.put, List.setIfInBounds_toArray, List.set_cons_zero, List.set_cons_succ]
        refine wpAnyH_take (i := 16) (oi := _) (v := ?_) (by rw [List.getElem?_toArray]; rfl) (by kernel_rfl) (by kernel_rfl) (by kernel_rfl) (by exact fun _ _ _ h => h) (Or.inl ⟨by rfl, ?_⟩) (by assumption) ?_
        rotate_left
        · (intro w9 hSw; (try dsimp only at hSw); go_simp; first | done | with_reducible rfl)
        try simp only [Act.put, List.setIfInBounds_toArray, List.set_cons_zero, List.set_cons_succ]
        refine wpAnyH_take (i := 17) (oi := _) (v := ?_) (by rw [List.getElem?_toArray]; rfl) (by kernel_rfl) (by kernel_rfl) (by kernel_rfl) (by exact fun _ _ _ h => h) (Or.inl ⟨by rfl, ?_⟩) (by assumption) ?_
        rotate_left
        · (intro w9 hSw; (try dsimp only at hSw); go_simp; first | done | with_reducible rfl)
        try simp only [Act.put, List.setIfInBounds_toArray, List.set_cons_zero, List.set_cons_succ]
        refine wpAnyH_done (by kernel_rfl) ?_ _
        go_wp2_with fail
        obtain ⟨wq, rfl⟩ : ∃ wq : World, wq = wr := ⟨_, rfl⟩
        have HCL0 : Hid (Clr w5 A2 mr c2 w5) := Lib.hid (Clr.start (own_kp HX.out.2.2.2.1 (Kp.none_of_below (S := fun _ => False) HW5.out) (fun _ _ h => h)))
        clear hc0 hc4 hc5 hcv5 hHeld
        go_loopw [14] (fun i wl => ∃ j : Nat, j ≤ mr ∧ i = .int .i64 j ∧ Hid (Clr w5 A2 mr c2 wl)) (fun i _ => mr - (intOf i).toNat)
        case atStart => exact ⟨0, Nat.zero_le _, rfl, HCL0⟩
        case round =>
          obtain ⟨j, hj, rfl, HCL⟩ := hrel
          clear HCL0
          by_cases hjm : j < mr
          · obtain ⟨g, off, cur, hA2, hoff, hga, hcs, hnc⟩ := HCL.out.2 (by omega)
            subst hA2
            have cell : ∀ t, t < 4 → ∃ u, wr.cell? ⟨g, off + j * 4 + t, none⟩ = some u := fun t ht => by
              refine ⟨_, hga.at_ (v := cur[off + j * 4 + t]'(by omega)) (by rw [Array.getElem?_eq_getElem])⟩
            obtain ⟨u0, k0⟩ := cell 0 (by omega)
            obtain ⟨u1, k1⟩ := cell 1 (by omega)
            obtain ⟨u2, k2⟩ := cell 2 (by omega)
            obtain ⟨u3, k3⟩ := cell 3 (by omega)
            rw [Nat.add_zero] at k0
            have f0 := hga.frozen (off + j * 4)
            have f1 := hga.frozen (off + j * 4 + 1)
            have f2 := hga.frozen (off + j * 4 + 2)
            have f3 := hga.frozen (off + j * 4 + 3)
            have z0 : (0 : Int) ≤ (j : Int) := by omega
            have z1 : (j : Int) < (mr : Int) := by omega
            clear hoff hga hcs cell
            go_wp2_with fail
            go_roundw
            case rel => exact ⟨j + 1, by omega, by go_num, Lib.hid ((((HCL.out.set (off := off) rfl _).set (off := off) rfl _).set (off := off) rfl _).set (off := off) rfl _)⟩
            case measure => simp [intOf]; omega
          · obtain rfl : j = mr := by omega
            obtain ⟨hor, haP, hb03, ho23, ho3, hm3, hmr⟩ := HX.out
            have hk7 := HCL.out.1
            have hb35 := HW5.out
            have hA2lo : ∀ x off, A2 = some ⟨x, off, none⟩ → wq.heap.size ≤ x ∧ x < w2.heap.size := fun x off e => by
              have h1 := HO2.out.1
              rw [e] at h1
              rcases own_adr h1 with ⟨h2, _⟩ | ⟨g2, h2⟩
              · cases h2
              · injection h2 with h2
                injection h2 with h2 h3
                subst h2; subst h3
                exact h1.lt x rfl
            have hb5q : Below wq.heap.size wq w5 := hb03.trans (hb35.mono hb03.size)
            have hbl : Below wq.heap.size wq wr := hb5q.trans (hk7.below hb5q.size (by rintro x hx ⟨off, e⟩; have := hA2lo x off e; omega))
            have hS7 := HS.out.below hbl
            have ho37 := own_kp (own_kp ho3 (Kp.none_of_below (S := fun _ => False) hb35) (fun _ _ h => h)) hk7 (by
              rintro x hx ⟨off, e⟩
              have h1 := hA2lo x off e
              have h2 := (ho3.lt x hx).1
              omega)
            obtain ⟨A3', c3', he3, hrd3, hnc3, hcm3⟩ := Rd.of_own ho37
            injection he3 with e1 e2 e3
            subst e1; subst e3
            have hadr : Adr A3 c3 := by
              rcases own_adr ho37 with ⟨h1, _, h3⟩ | ⟨g3, h1⟩
              · exact .inl ⟨h1, h3⟩
              · exact .inr ⟨g3, 0, h1⟩
            have hup := unpack14 A3 m3 c3 wr.heap.size (packL M) wr hrd3 hnc3 hcm3 (by rw [hm3]; exact packL_le HG.out) (packL_byte M) hadr (Nat.le_refl _)
            unfold UPost at hup
            rw [ans_pack HG.out] at hup
            have HS7 := Lib.hid (And.intro hS7 (And.intro hbl (hb5q)))
            have HRO := Lib.hid (And.intro (haP.below hbl haP.lt) (own_kp hor (Kp.none_of_below (S := fun _ => False) hbl) (fun _ _ h => h)))
            clear hor haP hb03 ho23 ho3 hm3 hmr hk7 hb35 hA2lo hb5q hbl hS7 ho37 hrd3 hnc3 hcm3 hadr e2
            go_wp2_with fail
            refine hup.mono ?_
            clear hup
            rintro e w7 ⟨T2, b2, rfl, hT2, hT20, hb20, hb7⟩
            have hS8 := HS7.out.1.below hb7
            have hA8 := HRO.out.1.below hb7 HRO.out.1.lt
            have hO8 := own_kp HRO.out.2 (Kp.none_of_below (S := fun _ => False) hb7) (fun _ _ h => h)
            have hAF : Hid (∀ W, Below w7.heap.size w7 W → W.cell? ⟨P, 0, none⟩ = some (.slice Ar j cr) ∧ Tb W T b M ∧ Tb W T2 b2 M ∧ Pv W W.heap.size Ar j M) := Lib.hid fun W h =>
              ⟨(hA8.below h hA8.lt).at_ rfl, hS8.t.below h hS8.t.lt.1 hS8.t.lt.2, hT2.below h hT2.lt.1 hT2.lt.2, Pv.of_own' (own_kp hO8 (Kp.none_of_below (S := fun _ => False) h) (fun _ _ h => h))⟩
            have HB7 := Lib.hid (HS7.out.2.1.trans (hb7.mono HS7.out.2.1.size))
            have HBW := Lib.hid HS.out.bl
            have hj100 : j ≤ 100 := hm2l
            have hML : Hid (M.length = j) := by have := own_len HRO.out.2; exact Lib.hid this.symm
            have hc7 := (hAF.out _ (Below.refl _ w7).drew).1
            clear hS8 hA8 hO8 hT2 hb7 hT20 hb20 HS7 HRO HS HX HCL
            go_wp2_with fail
            refine wp_region_held_drew (S := fun w' => w'.cell? ⟨P, 0, none⟩ = some (.slice Ar j cr)) (by kernel_rfl) hc7 (fun hHeld => ?_)
            refine wpAnyH_take (i := 0) (oi := _) (v := ?_) (by rw [List.getElem?_toArray]; rfl) (by kernel_rfl) (by kernel_rfl) (by kernel_rfl) (by exact fun _ _ _ h => h) (Or.inl ⟨by rfl, ?_⟩) (by assumption) ?_
            rotate_left
            · (intro w9 hSw; (try dsimp only at hSw); go_simp; first | done | with_reducible rfl)
            try simp only [Act.put, List.setIfInBounds_toArray, List.set_cons_zero, List.set_cons_succ]
            refine wpAnyH_ready (rs := [1]) (by kernel_rfl) (by simp) ?_
            refine AllReadyH.cons (o := _) (by rw [List.getElem?_toArray]; rfl) (fun K hK => ?_) AllReadyH.nil
            rw [if_pos (by rfl)]
            go_simp
            refine (num11 _ _).mono ?_
            rintro e w8 ⟨rfl, hw8⟩
            rw [hw8]
            clear hw8 w8
            go_wp2_with fail
            refine hK.out _ _ hc7 (fun hHeld => ?_)
            clear hK K
            try simp only [Act.put, List.setIfInBounds_toArray, List.set_cons_zero, List.set_cons_succ]
            refine wpAnyH_take (i := 2) (oi := _) (v := ?_) (by rw [List.getElem?_toArray]; rfl) (by kernel_rfl) (by kernel_rfl) (by kernel_rfl) (by exact fun _ _ _ h => h) (Or.inl ⟨by rfl, ?_⟩) (by assumption) ?_
            rotate_left
            · (intro w9 hSw; (try dsimp only at hSw); go_simp; first | done | with_reducible rfl)
            try simp only [Act.put, List.setIfInBounds_toArray, List.set_cons_zero, List.set_cons_succ]
            refine wpAnyH_take (i := 3) (oi := _) (v := ?_) (by rw [List.getElem?_toArray]; rfl) (by kernel_rfl) (by kernel_rfl) (by kernel_rfl) (by exact fun _ _ _ h => h) (Or.inl ⟨by rfl, ?_⟩) (by assumption) ?_
            rotate_left
            · (intro w9 hSw; (try dsimp only at hSw); go_simp; first | done | with_reducible rfl)
            try simp only [Act.put, List.setIfInBounds_toArray, List.set_cons_zero, List.set_cons_succ]
            refine wpAnyH_take (i := 4) (oi := _) (v := ?_) (by rw [List.getElem?_toArray]; rfl) (by kernel_rfl) (by kernel_rfl) (by kernel_rfl) (by exact fun _ _ _ h => h) (Or.inl ⟨by rfl, ?_⟩) (by assumption) ?_
            rotate_left
            · (intro w9 hSw; (try dsimp only at hSw); go_simp; first | done | with_reducible rfl)
            try simp only [Act.put, List.setIfInBounds_toArray, List.set_cons_zero, List.set_cons_succ]
            refine wpAnyH_take (i := 5) (oi := _) (v := ?_) (by rw [List.getElem?_toArray]; rfl) (by kernel_rfl) (by kernel_rfl) (by kernel_rfl) (by exact fun _ _ _ h => h) (Or.inl ⟨by rfl, ?_⟩) (by assumption) ?_
            rotate_left
            · (intro w9 hSw; (try dsimp only at hSw); go_simp; first | done | with_reducible rfl)
            try simp only [Act.put, List.setIfInBounds_toArray, List.set_cons_zero, List.set_cons_succ]
            refine wpAnyH_take (i := 6) (oi := _) (v := ?_) (by rw [List.getElem?_toArray]; rfl) (by kernel_rfl) (by kernel_rfl) (by kernel_rfl) (by exact fun _ _ _ h => h) (Or.inl ⟨by rfl, ?_⟩) (by assumption) ?_
            rotate_left
            · (intro w9 hSw; (try dsimp only at hSw); go_simp; first | done | with_reducible rfl)
            try simp only [Act.put, List.setIfInBounds_toArray, List.set_cons_zero, List.set_cons_succ]
            refine wpAnyH_take (i := 7) (oi := _) (v := ?_) (by rw [List.getElem?_toArray]; rfl) (by kernel_rfl) (by kernel_rfl) (by kernel_rfl) (by exact fun _ _ _ h => h) (Or.inl ⟨by rfl, ?_⟩) (by assumption) ?_
            rotate_left
            · (intro w9 hSw; (try dsimp only at hSw); go_simp; first | done | with_reducible rfl)
            try simp only [Act.put, List.setIfInBounds_toArray, List.set_cons_zero, List.set_cons_succ]
            refine wpAnyH_take (i := 8) (oi := _) (v := ?_) (by rw [List.getElem?_toArray]; rfl) (by kernel_rfl) (by kernel_rfl) (by kernel_rfl) (by exact fun _ _ _ h => h) (Or.inl ⟨by rfl, ?_⟩) (by assumption) ?_
            rotate_left
            · (intro w9 hSw; (try dsimp only at hSw); go_simp; first | done | with_reducible rfl)
            try simp only [Act.put, List.setIfInBounds_toArray, List.set_cons_zero, List.set_cons_succ]
            refine wpAnyH_take (i := 10) (oi := _) (v := ?_) (by rw [List.getElem?_toArray]; rfl) (by kernel_rfl) (by kernel_rfl) (by kernel_rfl) (by exact fun _ _ _ h => h) (Or.inl ⟨by rfl, ?_⟩) (by assumption) ?_
            rotate_left
            · (intro w9 hSw; (try dsimp only at hSw); go_simp; first | done | with_reducible rfl)
            try simp only [Act.put, List.setIfInBounds_toArray, List.set_cons_zero, List.set_cons_succ]
            refine wpAnyH_take (i := 11) (oi := _) (v := ?_) (by rw [List.getElem?_toArray]; rfl) (by kernel_rfl) (by kernel_rfl) (by kernel_rfl) (by exact fun _ _ _ h => h) (Or.inl ⟨by rfl, ?_⟩) (by assumption) ?_
            rotate_left
            · (intro w9 hSw; (try dsimp only at hSw); go_simp; first | done | with_reducible rfl)
            try simp only [Act.put, List.setIfInBounds_toArray, List.set_cons_zero, List.set_cons_succ]
            refine wpAnyH_take (i := 12) (oi := _) (v := ?_) (by rw [List.getElem?_toArray]; rfl) (by kernel_rfl) (by kernel_rfl) (by kernel_rfl) (by exact fun _ _ _ h => h) (Or.inl ⟨by rfl, ?_⟩) (by assumption) ?_
            rotate_left
            · (intro w9 hSw; (try dsimp only at hSw); go_simp; first | done | with_reducible rfl)
            try simp only [Act.put, List.setIfInBounds_toArray, List.set_cons_zero, List.set_cons_succ]
            refine wpAnyH_take (i := 13) (oi := _) (v := ?_) (by rw [List.getElem?_toArray]; rfl) (by kernel_rfl) (by kernel_rfl) (by kernel_rfl) (by exact fun _ _ _ h => h) (Or.inl ⟨by rfl, ?_⟩) (by assumption) ?_
            rotate_left
            · (intro w9 hSw; (try dsimp only at hSw); go_simp; first | done | with_reducible rfl)
            try simp only [Act.put, List.setIfInBounds_toArray, List.set_cons_zero, List.set_cons_succ]
            refine wpAnyH_ready (rs := [9]) (by kernel_rfl) (by simp) ?_
            refine AllReadyH.cons (o := _) (by rw [List.getElem?_toArray]; rfl) (fun K hK => ?_) AllReadyH.nil
            rw [if_pos (by rfl)]
            go_simp
            have hl8 := list13 T2 b2 M w7.drew (hAF.out _ (Below.refl _ w7).drew).2.2.1 (by have := HG.out.len; omega)
            refine hl8.mono ?_
            clear hl8
            rintro e w8 ⟨v8, rfl, hown8, hb8⟩
            obtain ⟨A8, m8, c8, rfl, ho8⟩ := own_slice3 hown8
            obtain rfl : m8 = j := by have h1 := own_len ho8; have h2 := hML.out; omega
            have hb78 : Below w7.heap.size w7 w8 := (Below.refl _ w7).drew.trans hb8
            have hc8 := (hAF.out _ hb78).1
            have hsm8 := same16 A8 Ar m8 c8 cr _ _ M w8 (Pv.of_own' ho8) (hAF.out _ hb78).2.2.2 (by omega)
            have HB78 := Lib.hid hb78
            clear hown8 ho8 hb8 hb78
            go_wp2_with fail
            refine hK.out _ _ hc8 (fun hHeld => ?_)
            clear hK K
            try simp only [Act.put, List.setIfInBounds_toArray, List.set_cons_zero, List.set_cons_succ]
            refine wpAnyH_ready (rs := [14]) (by kernel_rfl) (by simp) ?_
            refine AllReadyH.cons (o := _) (by rw [List.getElem?_toArray]; rfl) (fun K hK => ?_) AllReadyH.nil
            rw [if_pos (by rfl)]
            go_simp
            refine hsm8.mono ?_
            clear hsm8
            rintro e w9 ⟨rfl, q9, hw9⟩
            have hb79 : Below w7.heap.size w7 w9 := by rw [hw9]; exact below_drewN HB78.out q9
            have hc9 := (hAF.out _ hb79).1
            have HB79 := Lib.hid hb79
            clear hw9 hb79 hc8
            go_wp2_with fail
            refine hK.out _ _ hc9 (fun hHeld => ?_)
            clear hK K
            try simp only [Act.put, List.setIfInBounds_toArray, List.set_cons_zero, List.set_cons_succ]
            refine wpAnyH_take (i := 15) (oi := _) (v := ?_) (by rw [List.getElem?_toArray]; rfl) (by kernel_rfl) (by kernel_rfl) (by kernel_rfl) (by exact fun _ _ _ h => h) (Or.inl ⟨by rfl, ?_⟩) (by assumption) ?_
            rotate_left
            · (intro w9 hSw; (try dsimp only at hSw); go_simp; first | done | with_reducible rfl)
            try simp only [Act.put, List.setIfInBounds_toArray, List.set_cons_zero, List.set_cons_succ]
            refine wpAnyH_take (i := 16) (oi := _) (v := ?_) (by rw [List.getElem?_toArray]; rfl) (by kernel_rfl) (by kernel_rfl) (by kernel_rfl) (by exact fun _ _ _ h => h) (Or.inl ⟨by rfl, ?_⟩) (by assumption) ?_
            rotate_left
            · (intro w9 hSw; (try dsimp only at hSw); go_simp; first | done | with_reducible rfl)
            try simp only [Act.put, List.setIfInBounds_toArray, List.set_cons_zero, List.set_cons_succ]
            refine wpAnyH_take (i := 17) (oi := _) (v := ?_) (by rw [List.getElem?_toArray]; rfl) (by kernel_rfl) (by kernel_rfl) (by kernel_rfl) (by exact fun _ _ _ h => h) (Or.inl ⟨by rfl, ?_⟩) (by assumption) ?_
            rotate_left
            · (intro w9 hSw; (try dsimp only at hSw); go_simp; first | done | with_reducible rfl)
            try simp only [Act.put, List.setIfInBounds_toArray, List.set_cons_zero, List.set_cons_succ]
            refine wpAnyH_take (i := 19) (oi := _) (v := ?_) (by rw [List.getElem?_toArray]; rfl) (by kernel_rfl) (by kernel_rfl) (by kernel_rfl) (by exact fun _ _ _ h => h) (Or.inl ⟨by rfl, ?_⟩) (by assumption) ?_
            rotate_left
            · (intro w9 hSw; (try dsimp only at hSw); go_simp; first | done | with_reducible rfl)
            try simp only [Act.put, List.setIfInBounds_toArray, List.set_cons_zero, List.set_cons_succ]
            refine wpAnyH_take (i := 20) (oi := _) (v := ?_) (by rw [List.getElem?_toArray]; rfl) (by kernel_rfl) (by kernel_rfl) (by kernel_rfl) (by exact fun _ _ _ h => h) (Or.inl ⟨by rfl, ?_⟩) (by assumption) ?_
            rotate_left
            · (intro w9 hSw; (try dsimp only at hSw); go_simp; first | done | with_reducible rfl)
            try simp only [Act.put, List.setIfInBounds_toArray, List.set_cons_zero, List.set_cons_succ]
            refine wpAnyH_take (i := 21) (oi := _) (v := ?_) (by rw [List.getElem?_toArray]; rfl) (by kernel_rfl) (by kernel_rfl) (by kernel_rfl) (by exact fun _ _ _ h => h) (Or.inl ⟨by rfl, ?_⟩) (by assumption) ?_
            rotate_left
            · (intro w9 hSw; (try dsimp only at hSw); go_simp; first | done | with_reducible rfl)
            try simp only [Act.put, List.setIfInBounds_toArray, List.set_cons_zero, List.set_cons_succ]
            refine wpAnyH_take (i := 22) (oi := _) (v := ?_) (by rw [List.getElem?_toArray]; rfl) (by kernel_rfl) (by kernel_rfl) (by kernel_rfl) (by exact fun _ _ _ h => h) (Or.inl ⟨by rfl, ?_⟩) (by assumption) ?_
            rotate_left
            · (intro w9 hSw; (try dsimp only at hSw); go_simp; first | done | with_reducible rfl)
            try simp only [Act.put, List.setIfInBounds_toArray, List.set_cons_zero, List.set_cons_succ]
            refine wpAnyH_ready (rs := [18]) (by kernel_rfl) (by simp) ?_
            refine AllReadyH.cons (o := _) (by rw [List.getElem?_toArray]; rfl) (fun K hK => ?_) AllReadyH.nil
            rw [if_pos (by rfl)]
            go_simp
            have hl10 := list13 T b M w9 (hAF.out _ HB79.out).2.1 (by have := HG.out.len; omega)
            refine hl10.mono ?_
            clear hl10
            rintro e w10 ⟨v10, rfl, hown10, hb10⟩
            obtain ⟨A10, m10, c10, rfl, ho10⟩ := own_slice3 hown10
            obtain rfl : m10 = m8 := by have h1 := own_len ho10; have h2 := hML.out; omega
            have hb710 : Below w7.heap.size w7 w10 := HB79.out.trans (hb10.mono HB79.out.size)
            have hc10 := (hAF.out _ hb710).1
            have hsm10 := same16 A10 Ar m10 c10 cr _ _ M w10 (Pv.of_own' ho10) (hAF.out _ hb710).2.2.2 (by omega)
            have HB710 := Lib.hid hb710
            clear hown10 ho10 hb10 hb710 hc9
            go_wp2_with fail
            refine hK.out _ _ hc10 (fun hHeld => ?_)
            clear hK K
            try simp only [Act.put, List.setIfInBounds_toArray, List.set_cons_zero, List.set_cons_succ]
            refine wpAnyH_ready (rs := [23]) (by kernel_rfl) (by simp) ?_
            refine AllReadyH.cons (o := _) (by rw [List.getElem?_toArray]; rfl) (fun K hK => ?_) AllReadyH.nil
            rw [if_pos (by rfl)]
            go_simp
            refine hsm10.mono ?_
            clear hsm10
            rintro e w11 ⟨rfl, q11, hw11⟩
            have hb711 : Below w7.heap.size w7 w11 := by rw [hw11]; exact below_drewN HB710.out q11
            have hc11 := (hAF.out _ hb711).1
            have HF := Lib.hid (HBW.out.trans ((HB7.out.trans (hb711.mono HB7.out.size)).mono HBW.out.size))
            clear hw11 hb711 hc10
            go_wp2_with fail
            refine hK.out _ _ hc11 (fun hHeld => ?_)
            clear hK K
            try simp only [Act.put, List.setIfInBounds_toArray, List.set_cons_zero, List.set_cons_succ]
            refine wpAnyH_take (i := 24) (oi := _) (v := ?_) (by rw [List.getElem?_toArray]; rfl) (by kernel_rfl) (by kernel_rfl) (by kernel_rfl) (by exact fun _ _ _ h => h) (Or.inl ⟨by rfl, ?_⟩) (by assumption) ?_
            rotate_left
            · (intro w9 hSw; (try dsimp only at hSw); go_simp; first | done | with_reducible rfl)
            try simp only [Act.put, List.setIfInBounds_toArray, List.set_cons_zero, List.set_cons_succ]
            refine wpAnyH_take (i := 25) (oi := _) (v := ?_) (by rw [List.getElem?_toArray]; rfl) (by kernel_rfl) (by kernel_rfl) (by kernel_rfl) (by exact fun _ _ _ h => h) (Or.inl ⟨by rfl, ?_⟩) (by assumption) ?_
            rotate_left
            · (intro w9 hSw; (try dsimp only at hSw); go_simp; first | done | with_reducible rfl)
            try simp only [Act.put, List.setIfInBounds_toArray, List.set_cons_zero, List.set_cons_succ]
            refine wpAnyH_done (by kernel_rfl) ?_ _
            go_wp2_with fail
            go_ret
            exact ⟨rfl, HF.out⟩

set_option maxRecDepth 100000 in
theorem lifted (os : Os) (started : os.Started) (H : Type) (enc : TypeId × Value → H) :
    ReturnsInHanded {} Try.checked os 6 .any (Rows.plansPlaySpec.pre6 enc Try.prog Try.f6 Rows.plansPlayRow.domain false) (Rows.plansPlaySpec.post enc Try.prog Try.f6 false true false false) := by
  refine returnsInHanded_of_change_sized (C := Try.checked) Try.own started (by kernel_rfl) Try.func6
    (ChangeSpec.witness6 (enc := enc) (C := Try.checked) false ⟨#[], #[.slice none 0 0], []⟩ 8 (by kernel_rfl) (by kernel_rfl) (by kernel_rfl) (by kernel_rfl)) ?_
  intro W base args ds gs before hval0 hW hcnd hwt0 _
  have hval : ∀ (j : Nat) t v, Try.f6.params[j]? = some t → args[j]? = some v → Value.okWide Try.prog W .any base t v := hval0
  have hwt : ∀ n ∈ DataW.weightsEach Try.prog (Try.f6.params.toList ++ Rows.plansPlaySpec.plain.varTypes Try.prog) (ds ++ gs), n ≤ reachBytes := fun n hn => by
    have := List.all_eq_true.1 hwt0 n hn
    simpa using this
  have hW' := hW
  obtain ⟨p, q, hA0, hV, rfl, _, _⟩ := hW
  have hA : DataW.TrodAll enc Try.prog W 0 (fun _ => true) true Try.f6.params.toList args.toList ds p := hA0
  rw [Try.params6] at hA hval hwt
  obtain ⟨v0, vs0, d0, ds0, p0, q0, hargs, rfl, rfl, h0, r0⟩ := trodAll_cons hA
  obtain ⟨rfl, rfl, rfl⟩ := trodAll_nil r0
  obtain rfl : args = #[v0] := by cases args; simp_all
  obtain ⟨rfl, rfl⟩ := trodVars_none hV
  have hlt : ∀ x ∈ p0 ++ [], x.block < W.heap.size := fun x hx => by simpa using hW'.lt x (by simpa using hx)
  obtain ⟨A0, n0, c0, l0, rfl, rd0, hnc0, hcm0, ft0⟩ := open_ov Try.underlying43 (hval 0 43 v0 rfl rfl) h0 (fun x hx => hlt x (by simp [hx])) (fun n hn => hwt n (DataW.weights_mem_each (j := 0) rfl rfl n hn))
  refine (walk A0 n0 c0 l0 W rd0 ft0).mono fun e W' ⟨he, hb⟩ => ?_
  subst he
  exact ⟨_, rfl, law_post Try.laidOut (by kernel_rfl) rfl rfl Try.underlying4 hW' ⟨rfl, rfl, rfl⟩ hb⟩

theorem over : Rows.plansPlayRow.holds Try.pinned (OpenSpec.ofChange Rows.plansPlaySpec) :=
  OpenClaim.holds_of_wide 6 Try.f6 rfl rfl rfl rfl rfl rfl rfl ⟨rfl, rfl, rfl, rfl, rfl⟩ rfl rfl rfl rfl rfl (by kernel_rfl) Try.func6 (by kernel_rfl)
    (of_decide_eq_true (by kernel_rfl)) (by unfold Func.isWrapper; first | (rw [if_pos (by decide +kernel)]; kernel_rfl) | (rw [if_neg (by decide +kernel)]; exact ⟨rfl, rfl⟩))
    (fun os started H enc _ => lifted os started H enc)

/-- THE STATEMENT. -/
theorem proved : Rows.PlansPlaySaid :=
  over
end Go.Proofs.Ytghklmhmhekjgaa.plansPlay
