/- What Table.Pack tells: the bytes of its plans by rising names. Conditions: plans that may be, at most 1000. -/
import Derived.Test.YtghklmhmhekjgaaPk
namespace Go.Proofs.Ytghklmhmhekjgaa
open Go.RowKit Go.Maps Go.Shelf PC
attribute [local go_sem] Oper.semAt_some

set_option maxRecDepth 100000 in
set_option maxHeartbeats 8000000 in
theorem pack24 (T b : Nat) (L : List Pl) (w : World) (hT : Tb w T b L) (hL : L.length ≤ 1000) (hok : ∀ p ∈ L, OkP p.n p.f p.t p.r) :
    Calls Try.prog 24 #[.pointer (some ⟨T, 0, none⟩)] w fun e w' => ∃ v, e = .returned v ∧ w'.ownsRow w.heap.size 5 1 v (packL L).length ((packL L).map bv) ∧ Below w.heap.size w w' := by
  refine (callsIn_wide (n := 10)).1 ?_
  have hlt := hT.lt
  obtain ⟨i0, hi, hz0, hz1, hz2⟩ := info_parts Try.info5
  have hlen : ∀ ty, (Builtin.len_ #[54] ty #[.map (some b)]).run Try.prog w = .ok (.int .i64 (L.length : Nat)) w := fun ty => by
    have := hT.m.len Try.underlying54 ty
    rwa [dat_size] at this
  have hcT := hT.cell
  have hpp := vint_put ((L.length : Nat) : Int) w
  unfold VpPost at hpp
  rw [un_nat (by omega)] at hpp
  have hvl := vput_len L.length
  obtain ⟨N, hN⟩ : ∃ N, N = L.length := ⟨_, rfl⟩
  rw [← hN] at hpp hlen
  have HN := Lib.hid hN
  refine callsIn_of_wp_marks Try.func24 rfl trivial ?_ rfl
  simp only [Try.ntmps24, List.size_toArray, List.length_cons, List.length_nil, Nat.reduceAdd, Nat.reduceSub, Array.replicate_succ, Array.replicate_zero, List.push_toArray, List.append_toArray, List.nil_append, List.cons_append]
  have hf36 : Fence.wide.fn 36 := trivial
  have hf26 : Fence.wide.fn 26 := trivial
  clear hN
  gi_wp2_with (first | (gi_at_call 36; refine (callsIn_wide.2 hpp).mono ?_; rintro e w1 ⟨v0, rfl, hown1, hb1⟩; obtain ⟨g0, cap0, cur0, rfl, _⟩ := own_form hown1 (by rw [HN.out]; omega)) | (gi_at_call 26; refine (all26 _ _ _).mono ?_; rintro e w' ⟨rfl, rfl⟩))
  obtain ⟨W0, hW0⟩ : ∃ W0, W0 = (w1.alloc (.cells #[.slice (some ⟨g0, 0, none⟩) (vput N).length cap0] 36)).alloc (.cells #[.pointer (some ⟨T, 0, none⟩)] 24) := ⟨_, rfl⟩
  have hw1 := hb1.size
  have hsz : W0.heap.size = w1.heap.size + 2 := by rw [hW0]; simp
  have hb0 : Below w.heap.size w W0 := by rw [hW0]; exact (hb1.alloc hw1 _).alloc (by simp; omega) _
  have hA0 : Boxed W0 w1.heap.size 36 (.slice (some ⟨g0, 0, none⟩) (vput N).length cap0) := by rw [hW0]; exact (Boxed.new w1 36 _).alloc _
  have hA2 : Arr W0 (w1.heap.size + 1) 24 #[.pointer (some ⟨T, 0, none⟩)] := by
    rw [hW0]; have := Arr.new (w1.alloc (.cells #[.slice (some ⟨g0, 0, none⟩) (vput N).length cap0] 36)) 24 #[.pointer (some ⟨T, 0, none⟩)]; rwa [World.size_alloc] at this
  have hrow0 : W0.ownsRow w.heap.size 5 1 (.slice (some ⟨g0, 0, none⟩) (vput N).length cap0) (vput N).length ((vput N).map bv) := by rw [hW0]; exact (hown1.alloc _).alloc _
  have hT0 := hT.below hb0 hlt.1 hlt.2
  have HT := Lib.hid hT
  rw [← hW0]
  obtain ⟨B1, hB1⟩ : ∃ B1, B1 = w1.heap.size := ⟨_, rfl⟩
  rw [← hB1] at hsz hA0 hA2 hw1 ⊢
  obtain ⟨z0, hz0e⟩ : ∃ z0, z0 = (vput N).length := ⟨_, rfl⟩
  rw [← hz0e] at hrow0 hA0 ⊢
  have HZ := Lib.hid hz0e
  have hp0 : pkTo L 0 = vput N := by unfold pkTo; rw [List.take_zero, List.flatMap_nil, List.append_nil, HN.out]
  obtain ⟨base, hbase⟩ : ∃ base, base = w.heap.size := ⟨_, rfl⟩
  rw [← hbase] at hw1 hrow0 hb0 hlt
  have HBASE := Lib.hid hbase
  have hpk := pkTo_len (L := L) (fun p hp => by have := (hok p hp).2.2.1; omega)
  clear hW0 hB1 hz0e hbase hown1 hb1
  refine wpIn_rangeEach rfl (by omega) 40 #[.pointer (some ⟨B1 + 1, 0, none⟩)] rfl trivial (enters_of Try.func40 (by kernel_rfl) rfl) (fun k => plv (nth L k)) L.length
    (fun x k W => (∃ v, Boxed W B1 36 v ∧ W.ownsRow base 5 1 v (pkTo L k).length ((pkTo L k).map bv)) ∧ (∃ cs t, W.heap[x]? = some (.cells cs t (0, 0)) ∧ (t = 9 ∨ t = 54)) ∧ Below base w W ∧ Arr W (B1 + 1) 24 #[.pointer (some ⟨T, 0, none⟩)] ∧ W0.heap.size ≤ W.heap.size ∧ W0.heap.size ≤ x)
    (fun k a' W => ∃ Bx, W0.heap.size ≤ Bx ∧ Arr W Bx 27 #[.string (nth L k).n, .int .i64 (nth L k).f, .int .i64 (nth L k).t, .int .i64 (nth L k).r] ∧ a' = { tmps := #[.pointer (some ⟨T, 0, none⟩), undef, .slice none 0 0, .pointer (some ⟨B1, 0, none⟩), .pointer (some ⟨Bx, 0, none⟩), .pointer (some ⟨T, 0, none⟩), .pointer (some ⟨T, 0, none⟩), .pointer (some ⟨T, 0, none⟩), .map (some b), .int .i64 (N : Nat), .slice (some ⟨g0, 0, none⟩) z0 cap0, .pointer (some ⟨T, 0, none⟩), .func (.func 40) #[] #[.pointer (some ⟨B1 + 1, 0, none⟩)], plv (nth L k), undef, undef, undef, undef, undef, undef, undef, undef, undef, undef, undef, undef, undef, undef, undef, undef, undef, undef, undef, undef, undef, undef, undef, undef], defers := [] })
    ?hI ?hAx ?h0 ?hiter ?assign ?body ?done
  case hI =>
    rintro x k W r o o' ⟨⟨v, hv, hrow⟩, ⟨cs, t, hx1, hx2⟩, hb, hA, hs, hx⟩ hr ho hoc
    have hxr : x ≠ r := by
      rintro rfl
      rw [hx1] at ho
      injection ho with ho
      subst ho
      cases hoc
    exact ⟨⟨v, hv.kept (grownBy_putObj' W r o') (by intro e; injection e with e; omega), ownsRow_putObj hrow o' ho hoc⟩, ⟨cs, t, (World.putObj_heap_other hxr).trans hx1, hx2⟩, hb.grown (grownBy_putObj' W r o') (by have := hb.size; have := HBASE.out; omega) (fun x e => by injection e with e; omega), hA.putObj ho hoc, by simpa using hs, hx⟩
  case hAx =>
    rintro k a' W r o o' ⟨Bx, h1, h2, rfl⟩ hr ho hoc
    exact ⟨Bx, h1, h2.putObj ho hoc, rfl⟩
  case h0 =>
    intro x W hb hx hxt
    refine ⟨⟨_, (hb.block _ (by omega)).trans hA0, ?_⟩, hxt, hb0.trans (hb.mono (by omega)), hA2.below hb (by omega), hb.size, hx⟩
    rw [hp0, ← HZ.out]
    exact own_kp hrow0 (Kp.none_of_below (S := fun _ => False) hb) (fun _ _ h => h)
  case hiter =>
    refine all1_hands _ (by omega) (B1 + 1) T b L _ W0 (by omega) (hA2.at_ rfl) hT0 hL ?_
    rintro x k W ⟨_, _, hb, hA, _⟩
    exact ⟨hA.at_ rfl, L, HT.out.below hb hlt.1 hlt.2, fun j p _ hj => List.mem_of_getElem? hj⟩
  case assign =>
    rintro l x k W K hl ⟨⟨v, hv, hrow⟩, hxt, hb, hA, hs, hx⟩ hk hK
    dsimp only
    unfold plv at hK ⊢
    gi_wp2
    have hxl := lt_of_cells hxt
    obtain ⟨cs, t, hx1, hx2⟩ := hxt
    exact hK _ _ ((KeepsOthers.alloc W _).from _) (Below.heap_alloc _ _ _ hxl) ⟨⟨v, hv.alloc _, hrow.alloc _⟩, ⟨cs, t, (Below.heap_alloc _ _ _ hxl).trans hx1, hx2⟩, hb.alloc (by omega) _, hA.alloc _, by simp; omega, hx⟩ ⟨W.heap.size, hs, Arr.new W 27 _, rfl⟩
  case body =>
    rintro l x k a' W hl ⟨⟨v, hv, hrow⟩, hxt, hb, hA, hs, hx⟩ ⟨Bx, hBx, hBA, rfl⟩ hk
    have hp : L[k]? = some (nth L k) := by unfold nth; rw [List.getD_eq_getElem?_getD, List.getElem?_eq_getElem hk]; rfl
    have hsu := pkTo_succ hp
    have hpok := hok _ (List.mem_of_getElem? hp)
    have hpkl := hpk k
    obtain ⟨P, hP⟩ : ∃ P, P = plv (nth L k) := ⟨_, rfl⟩
    rw [← hP]
    obtain ⟨p, hpe⟩ : ∃ p, p = nth L k := ⟨_, rfl⟩
    rw [← hpe] at hBA hsu hpok
    clear hpe hp hP
    obtain ⟨n, f, t, r⟩ := p
    simp only at hBA hpok
    obtain ⟨_, _, hn64, hf1, hf2, ht1, ht2, _, hr1, hr2⟩ := hpok
    obtain ⟨bl, hbl⟩ : ∃ bl, bl = pkTo L k := ⟨_, rfl⟩
    rw [← hbl] at hrow hsu hpkl
    obtain ⟨m, hm⟩ : ∃ m, m = bl.length := ⟨_, rfl⟩
    rw [← hm] at hrow hpkl
    have hm9 : m ≤ 2000000000 := by omega
    obtain ⟨g, cap, cur, rfl, _⟩ := own_form hrow hpkl.1
    have HM := Lib.hid (And.intro hm (And.intro hbl hsu))
    have hbw : base ≤ W.heap.size := by have := hs; omega
    have hcB := hv.cell
    have hcn : W.cell? ⟨Bx, 0, none⟩ = some (.string n) := hBA.at_ rfl
    have HF := Lib.hid (show Fr base B1 Bx x #[.pointer (some ⟨T, 0, none⟩)] #[.string n, .int .i64 f, .int .i64 t, .int .i64 r] (.slice (some ⟨g, 0, none⟩) m cap) W W from ⟨KeepsOthers.refl W, Below.refl _ W, rfl, hxt, hv, hBA, hw1, hA⟩)
    have HI := Lib.hid (And.intro hb (And.intro hA hs))
    have hd1 : 1 ≤ 10 - 1 - 1 := by omega
    clear hm hbl hsu hpkl hv hxt hb hA hBA
    have hqs : ∀ W', Calls Try.prog 36 #[.int .i64 ((n.size : Nat) : Int)] W' fun e w' => ∃ x, e = .returned x ∧ w'.ownsRow W'.heap.size 5 1 x (vput n.size).length ((vput n.size).map bv) ∧ Below W'.heap.size W' w' := fun W' => by have := vint_put ((n.size : Nat) : Int) W'; unfold VpPost at this; rwa [un_nat (by omega)] at this
    have hlvs := vput_len (n.size)
    obtain ⟨ss, hss⟩ : ∃ s, s = vput (n.size) := ⟨_, rfl⟩
    rw [← hss] at hqs hlvs
    obtain ⟨ks, hks⟩ : ∃ z, z = ss.length := ⟨_, rfl⟩
    rw [← hks] at hqs hlvs
    have HQs := Lib.hid hqs
    have HSs := Lib.hid hss
    have HKs := Lib.hid hks
    clear hqs hss hks
    gi_wp2
    have hsz4 : W.heap.size ≤ W.heap.size := Nat.le_refl _
    refine region_round (S := fun w' => w'.cell? ⟨Bx, 0, none⟩ = some (.string n)) (R := fun a1 w1 => St base B1 Bx x #[.pointer (some ⟨T, 0, none⟩)] #[.string n, .int .i64 f, .int .i64 t, .int .i64 r] W (bl ++ (ss ++ nb n)) w1 ∧ ∃ u14 u15 u16 u17 u18 u19 u20 u21 u22, a1 = { tmps := #[.pointer (some ⟨T, 0, none⟩), undef, .slice none 0 0, .pointer (some ⟨B1, 0, none⟩), .pointer (some ⟨Bx, 0, none⟩), .pointer (some ⟨T, 0, none⟩), .pointer (some ⟨T, 0, none⟩), .pointer (some ⟨T, 0, none⟩), .map (some b), .int .i64 (N : Nat), .slice (some ⟨g0, 0, none⟩) z0 cap0, .pointer (some ⟨T, 0, none⟩), .func (.func 40) #[] #[.pointer (some ⟨B1 + 1, 0, none⟩)], P, u14, u15, u16, u17, u18, u19, u20, u21, u22, undef, undef, undef, undef, undef, undef, undef, undef, undef, undef, undef, undef, undef, undef, undef], defers := [] }) (by kernel_rfl) (by kernel_rfl) ?hS0 (fun hHeld => ?_) ?hrest
    case hS0 => exact hcn
    case hrest =>
      rintro a1 w4 ⟨hst4, u14, u15, u16, u17, u18, u19, u20, u21, u22, rfl⟩
      obtain ⟨bl1, hbl1⟩ : ∃ l, l = bl ++ (ss ++ nb n) := ⟨_, rfl⟩
      rw [← hbl1] at hst4
      obtain ⟨g1, cap1, hF4, hrow4⟩ := hst4
      obtain ⟨m1, hm1⟩ : ∃ z, z = bl1.length := ⟨_, rfl⟩
      rw [← hm1] at hF4 hrow4
      have hm1b : 0 < m1 ∧ m1 ≤ 2000000100 := by rw [hm1, hbl1, List.length_append, List.length_append, nb_len, ← HM.out.1, ← HKs.out]; omega
      have HM1 := Lib.hid (And.intro hm1 hbl1)
      have HF4 := Lib.hid hF4
      have q1 : w4.cell? ⟨Bx, 1, none⟩ = some (.int .i64 f) := hF4.ax.at_ rfl
      have q2 : w4.cell? ⟨Bx, 2, none⟩ = some (.int .i64 t) := hF4.ax.at_ rfl
      have hsd : w4.drew.heap.size = w4.heap.size := rfl
      clear hm1 hbl1 hF4
      have hqf : ∀ W', Calls Try.prog 37 #[.int .i64 f] W' fun e w' => ∃ x, e = .returned x ∧ w'.ownsRow W'.heap.size 5 1 x (vput (zig f)).length ((vput (zig f)).map bv) ∧ Below W'.heap.size W' w' := fun W' => signed37 f W' (by omega)
      have hqt : ∀ W', Calls Try.prog 37 #[.int .i64 t] W' fun e w' => ∃ x, e = .returned x ∧ w'.ownsRow W'.heap.size 5 1 x (vput (zig t)).length ((vput (zig t)).map bv) ∧ Below W'.heap.size W' w' := fun W' => signed37 t W' (by omega)
      have hlvf := vput_len (zig f)
      obtain ⟨sf, hsf⟩ : ∃ s, s = vput (zig f) := ⟨_, rfl⟩
      rw [← hsf] at hqf hlvf
      obtain ⟨kf, hkf⟩ : ∃ z, z = sf.length := ⟨_, rfl⟩
      rw [← hkf] at hqf hlvf
      have HQf := Lib.hid hqf
      have HSf := Lib.hid hsf
      have HKf := Lib.hid hkf
      clear hqf hsf hkf
      have hlvt := vput_len (zig t)
      obtain ⟨st, hst⟩ : ∃ s, s = vput (zig t) := ⟨_, rfl⟩
      rw [← hst] at hqt hlvt
      obtain ⟨kt, hkt⟩ : ∃ z, z = st.length := ⟨_, rfl⟩
      rw [← hkt] at hqt hlvt
      have HQt := Lib.hid hqt
      have HSt := Lib.hid hst
      have HKt := Lib.hid hkt
      clear hqt hst hkt
      gi_wp2
      refine region_round (S := fun w' => w'.cell? ⟨Bx, 1, none⟩ = some (.int .i64 f) ∧ w'.cell? ⟨Bx, 2, none⟩ = some (.int .i64 t)) (R := fun a1 w1 => St base B1 Bx x #[.pointer (some ⟨T, 0, none⟩)] #[.string n, .int .i64 f, .int .i64 t, .int .i64 r] W (bl1 ++ (sf ++ st)) w1 ∧ ∃ u23 u24 u25 u26 u27 u28 u29 u30 u31, a1 = { tmps := #[.pointer (some ⟨T, 0, none⟩), undef, .slice none 0 0, .pointer (some ⟨B1, 0, none⟩), .pointer (some ⟨Bx, 0, none⟩), .pointer (some ⟨T, 0, none⟩), .pointer (some ⟨T, 0, none⟩), .pointer (some ⟨T, 0, none⟩), .map (some b), .int .i64 (N : Nat), .slice (some ⟨g0, 0, none⟩) z0 cap0, .pointer (some ⟨T, 0, none⟩), .func (.func 40) #[] #[.pointer (some ⟨B1 + 1, 0, none⟩)], P, u14, u15, u16, u17, u18, u19, u20, u21, u22, u23, u24, u25, u26, u27, u28, u29, u30, u31, undef, undef, undef, undef, undef, undef], defers := [] }) (by kernel_rfl) (by kernel_rfl) ?hS0 (fun hHeld => ?_) ?hrest
      case hS0 => exact ⟨q1, q2⟩
      case hrest =>
        rintro a1 w5 ⟨hst5, u23, u24, u25, u26, u27, u28, u29, u30, u31, rfl⟩
        obtain ⟨bl2, hbl2⟩ : ∃ l, l = bl1 ++ (sf ++ st) := ⟨_, rfl⟩
        rw [← hbl2] at hst5
        obtain ⟨g2, cap2, hF5, hrow5⟩ := hst5
        obtain ⟨m2, hm2⟩ : ∃ z, z = bl2.length := ⟨_, rfl⟩
        rw [← hm2] at hF5 hrow5
        have hm2b : 0 < m2 ∧ m2 ≤ 2000000200 := by rw [hm2, hbl2, List.length_append, List.length_append, ← HM1.out.1, ← HKf.out, ← HKt.out]; omega
        have HM2 := Lib.hid (And.intro hm2 hbl2)
        have HF5 := Lib.hid hF5
        have q3 : w5.cell? ⟨Bx, 3, none⟩ = some (.int .i64 r) := hF5.ax.at_ rfl
        have hsd5 : w5.drew.heap.size = w5.heap.size := rfl
        clear hm2 hbl2 hF5 hrow4
        have hqr : ∀ W', Calls Try.prog 36 #[.int .i64 r] W' fun e w' => ∃ x, e = .returned x ∧ w'.ownsRow W'.heap.size 5 1 x (vput (PV.un r)).length ((vput (PV.un r)).map bv) ∧ Below W'.heap.size W' w' := fun W' => vint_put r W'
        have hlvr := vput_len (PV.un r)
        obtain ⟨sr, hsr⟩ : ∃ s, s = vput (PV.un r) := ⟨_, rfl⟩
        rw [← hsr] at hqr hlvr
        obtain ⟨kr, hkr⟩ : ∃ z, z = sr.length := ⟨_, rfl⟩
        rw [← hkr] at hqr hlvr
        have HQr := Lib.hid hqr
        have HSr := Lib.hid hsr
        have HKr := Lib.hid hkr
        clear hqr hsr hkr
        gi_wp2
        refine region_round (S := fun w' => w'.cell? ⟨Bx, 3, none⟩ = some (.int .i64 r)) (R := fun a1 w1 => St base B1 Bx x #[.pointer (some ⟨T, 0, none⟩)] #[.string n, .int .i64 f, .int .i64 t, .int .i64 r] W (bl2 ++ sr) w1 ∧ ∃ u32 u33 u34 u35 u36, a1 = { tmps := #[.pointer (some ⟨T, 0, none⟩), undef, .slice none 0 0, .pointer (some ⟨B1, 0, none⟩), .pointer (some ⟨Bx, 0, none⟩), .pointer (some ⟨T, 0, none⟩), .pointer (some ⟨T, 0, none⟩), .pointer (some ⟨T, 0, none⟩), .map (some b), .int .i64 (N : Nat), .slice (some ⟨g0, 0, none⟩) z0 cap0, .pointer (some ⟨T, 0, none⟩), .func (.func 40) #[] #[.pointer (some ⟨B1 + 1, 0, none⟩)], P, u14, u15, u16, u17, u18, u19, u20, u21, u22, u23, u24, u25, u26, u27, u28, u29, u30, u31, u32, u33, u34, u35, u36, undef], defers := [] }) (by kernel_rfl) (by kernel_rfl) ?hS0 (fun hHeld => ?_) ?hrest
        case hS0 => exact q3
        case hrest =>
          rintro a1 w6 ⟨hst6, u32, u33, u34, u35, u36, rfl⟩
          obtain ⟨g3, cap3, hF6, hrow6⟩ := hst6
          have hl6 : bl2 ++ sr = pkTo L (k + 1) := by rw [HM.out.2.2, HM2.out.2, HM1.out.2, HM.out.2.1, HSs.out, HSf.out, HSt.out, HSr.out]; unfold pk1; simp
          rw [hl6] at hF6 hrow6
          obtain ⟨hb, hA, hs⟩ := HI.out
          have hbw6 := hF6.bl
          have hsz6 := hF6.bl.size
          gi_wp2
          exact ⟨hF6.ko.from _, hF6.xh, ⟨⟨_, hF6.ab, hrow6⟩, hF6.xt, hb.trans hF6.bl, hF6.az, by omega, by omega⟩⟩
        refine wpAnyH_take (i := 1) (oi := _) (v := ?_) (by rw [List.getElem?_toArray]; rfl) (by kernel_rfl) (by kernel_rfl) (by kernel_rfl) (by intro _ _ _ h; cases h.1) (Or.inl ⟨by rfl, ?_⟩) (by assumption) ?_
        rotate_left
        · (intro w9 hSw; (try dsimp only at hSw); go_simp; first | done | with_reducible rfl)
        try simp only [Act.put, List.setIfInBounds_toArray, List.set_cons_zero, List.set_cons_succ]
        refine wpAnyH_take (i := 2) (oi := _) (v := ?_) (by rw [List.getElem?_toArray]; rfl) (by kernel_rfl) (by kernel_rfl) (by kernel_rfl) (by intro _ _ _ h; cases h.1) (Or.inl ⟨by rfl, ?_⟩) (by assumption) ?_
        rotate_left
        · (intro w9 hSw; (try dsimp only at hSw); go_simp; first | done | with_reducible rfl)
        try simp only [Act.put, List.setIfInBounds_toArray, List.set_cons_zero, List.set_cons_succ]
        refine wpAnyH_ready (rs := [0, 3]) (by kernel_rfl) (by simp) ?_
        refine AllReadyH.cons (o := _) (by rw [List.getElem?_toArray]; rfl) (fun K hK => ?_) ?nx1
        rotate_left
        case nx1 =>
          refine AllReadyH.cons (o := _) (by rw [List.getElem?_toArray]; rfl) (fun K hK => ?_) AllReadyH.nil
          go_simp
          refine (HQr.out _).mono ?_
          rintro e w3_ ⟨x3, rfl, hown3, hb3⟩
          obtain ⟨r3, c3, cur3, rfl, hrb3, _⟩ := own_form hown3 (by omega)
          have hz3 := hb3.size
          have hF3 := HF5.out.drew.call hb3
          have hrb3 := own_call (W := w5.drew) hrow5 hb3
          go_wp2_with fail
          refine hK.out _ _ ?hS (fun hHeld => ?_)
          case hS => exact hF3.ax.at_ rfl
          clear hK K
          try simp only [Act.put, List.setIfInBounds_toArray, List.set_cons_zero, List.set_cons_succ]
          refine wpAnyH_ready (rs := [0]) (by kernel_rfl) (by simp) ?_
          refine AllReadyH.cons (o := _) (by rw [List.getElem?_toArray]; rfl) (fun K hK => ?_) AllReadyH.nil
          have sb5 := hF3.ab.cell
          go_simp
          refine hK.out _ _ ?hS (fun hHeld => ?_)
          case hS => exact hF3.ax.at_ rfl
          clear hK K
          try simp only [Act.put, List.setIfInBounds_toArray, List.set_cons_zero, List.set_cons_succ]
          refine wpAnyH_ready (rs := [4]) (by kernel_rfl) (by simp) ?_
          refine AllReadyH.cons (o := _) (by rw [List.getElem?_toArray]; rfl) (fun K hK => ?_) AllReadyH.nil
          refine step_append_lies _ (by rfl) (.tmp 32) (.tmp 35) 36 (by rfl) base 5 i0 (.int .u8 0) 1 1 Try.underlying36 hi hz0 hz1 hz2 rfl (by decide) (.slice (some ⟨g2, 0, none⟩) m2 cap2) (m2) (bl2.map bv) (by rfl) hrb3 ⟨r3, 0, none⟩ kr c3 (sr.map bv) (by rfl) (by rw [List.length_map, ← HKr.out, Nat.mul_one]) (fun j u hu => by rw [add_addr]; exact own_cell hown3 hu) (by intro u hu; obtain ⟨q, _, rfl⟩ := List.mem_map.1 hu; rfl) (by omega) (by unfold maxLen; omega) (by omega) (Nat.le_trans hbw (Nat.le_trans hsz4 hF3.bl.size)) _ rfl ?_
          intro g7 cap7 w7_ hown7 hg7 hat7 hlt7
          have hF7 := hF3.app hrb3 hg7
          refine hK.out _ _ ?hS (fun hHeld => ?_)
          case hS => exact hF7.ax.at_ rfl
          clear hK K
          try simp only [Act.put, List.setIfInBounds_toArray, List.set_cons_zero, List.set_cons_succ]
          refine wpAnyH_ready (rs := [5]) (by kernel_rfl) (by simp) ?_
          refine AllReadyH.cons (o := _) (by rw [List.getElem?_toArray]; rfl) (fun K hK => ?_) AllReadyH.nil
          have sb9 := hF7.ab.cell
          have sf9 := hF7.ab.frozen
          go_simp
          have hF9 := hF7.store (.slice (some ⟨g7, 0, none⟩) (m2 + kr) cap7)
          have hre9 := own_store hF7 hown7 (.slice (some ⟨g7, 0, none⟩) (m2 + kr) cap7)
          refine hK.out _ _ ?hS (fun hHeld => ?_)
          case hS => exact hF9.ax.at_ rfl
          clear hK K
          try simp only [Act.put, List.setIfInBounds_toArray, List.set_cons_zero, List.set_cons_succ]
          refine wpAnyH_done (by kernel_rfl) ?_ _
          exact ⟨rfl, St.mk hF9 hre9 (by rw [HM2.out.1, HKr.out]; simp) (by simp), _, _, _, _, _, rfl⟩
        have sb10 := HF5.out.drew.ab.cell
        go_simp
        refine hK.out _ _ ?hS (fun hHeld => ?_)
        case hS => exact HF5.out.drew.ax.at_ rfl
        clear hK K
        try simp only [Act.put, List.setIfInBounds_toArray, List.set_cons_zero, List.set_cons_succ]
        refine wpAnyH_ready (rs := [3]) (by kernel_rfl) (by simp) ?_
        refine AllReadyH.cons (o := _) (by rw [List.getElem?_toArray]; rfl) (fun K hK => ?_) AllReadyH.nil
        go_simp
        refine (HQr.out _).mono ?_
        rintro e w12_ ⟨x12, rfl, hown12, hb12⟩
        obtain ⟨r12, c12, cur12, rfl, hrb12, _⟩ := own_form hown12 (by omega)
        have hz12 := hb12.size
        have hF12 := HF5.out.drew.call hb12
        have hrb12 := own_call (W := w5.drew) hrow5 hb12
        go_wp2_with fail
        refine hK.out _ _ ?hS (fun hHeld => ?_)
        case hS => exact hF12.ax.at_ rfl
        clear hK K
        try simp only [Act.put, List.setIfInBounds_toArray, List.set_cons_zero, List.set_cons_succ]
        refine wpAnyH_ready (rs := [4]) (by kernel_rfl) (by simp) ?_
        refine AllReadyH.cons (o := _) (by rw [List.getElem?_toArray]; rfl) (fun K hK => ?_) AllReadyH.nil
        refine step_append_lies _ (by rfl) (.tmp 32) (.tmp 35) 36 (by rfl) base 5 i0 (.int .u8 0) 1 1 Try.underlying36 hi hz0 hz1 hz2 rfl (by decide) (.slice (some ⟨g2, 0, none⟩) m2 cap2) (m2) (bl2.map bv) (by rfl) hrb12 ⟨r12, 0, none⟩ kr c12 (sr.map bv) (by rfl) (by rw [List.length_map, ← HKr.out, Nat.mul_one]) (fun j u hu => by rw [add_addr]; exact own_cell hown12 hu) (by intro u hu; obtain ⟨q, _, rfl⟩ := List.mem_map.1 hu; rfl) (by omega) (by unfold maxLen; omega) (by omega) (Nat.le_trans hbw (Nat.le_trans hsz4 hF12.bl.size)) _ rfl ?_
        intro g14 cap14 w14_ hown14 hg14 hat14 hlt14
        have hF14 := hF12.app hrb12 hg14
        refine hK.out _ _ ?hS (fun hHeld => ?_)
        case hS => exact hF14.ax.at_ rfl
        clear hK K
        try simp only [Act.put, List.setIfInBounds_toArray, List.set_cons_zero, List.set_cons_succ]
        refine wpAnyH_ready (rs := [5]) (by kernel_rfl) (by simp) ?_
        refine AllReadyH.cons (o := _) (by rw [List.getElem?_toArray]; rfl) (fun K hK => ?_) AllReadyH.nil
        have sb16 := hF14.ab.cell
        have sf16 := hF14.ab.frozen
        go_simp
        have hF16 := hF14.store (.slice (some ⟨g14, 0, none⟩) (m2 + kr) cap14)
        have hre16 := own_store hF14 hown14 (.slice (some ⟨g14, 0, none⟩) (m2 + kr) cap14)
        refine hK.out _ _ ?hS (fun hHeld => ?_)
        case hS => exact hF16.ax.at_ rfl
        clear hK K
        try simp only [Act.put, List.setIfInBounds_toArray, List.set_cons_zero, List.set_cons_succ]
        refine wpAnyH_done (by kernel_rfl) ?_ _
        exact ⟨rfl, St.mk hF16 hre16 (by rw [HM2.out.1, HKr.out]; simp) (by simp), _, _, _, _, _, rfl⟩
      refine wpAnyH_take (i := 1) (oi := _) (v := ?_) (by rw [List.getElem?_toArray]; rfl) (by kernel_rfl) (by kernel_rfl) (by kernel_rfl) (by intro _ _ _ h; cases h.1) (Or.inl ⟨by rfl, ?_⟩) (by assumption) ?_
      rotate_left
      · (intro w9 hSw; (try dsimp only at hSw); go_simp; first | done | with_reducible rfl)
      try simp only [Act.put, List.setIfInBounds_toArray, List.set_cons_zero, List.set_cons_succ]
      refine wpAnyH_take (i := 2) (oi := _) (v := ?_) (by rw [List.getElem?_toArray]; rfl) (by kernel_rfl) (by kernel_rfl) (by kernel_rfl) (by intro _ _ _ h; cases h.1) (Or.inl ⟨by rfl, ?_⟩) (by assumption) ?_
      rotate_left
      · (intro w9 hSw; (try dsimp only at hSw); go_simp; first | done | with_reducible rfl)
      try simp only [Act.put, List.setIfInBounds_toArray, List.set_cons_zero, List.set_cons_succ]
      refine wpAnyH_take (i := 5) (oi := _) (v := ?_) (by rw [List.getElem?_toArray]; rfl) (by kernel_rfl) (by kernel_rfl) (by kernel_rfl) (by intro _ _ _ h; cases h.1) (Or.inl ⟨by rfl, ?_⟩) (by assumption) ?_
      rotate_left
      · (intro w9 hSw; (try dsimp only at hSw); go_simp; first | done | with_reducible rfl)
      try simp only [Act.put, List.setIfInBounds_toArray, List.set_cons_zero, List.set_cons_succ]
      refine wpAnyH_take (i := 6) (oi := _) (v := ?_) (by rw [List.getElem?_toArray]; rfl) (by kernel_rfl) (by kernel_rfl) (by kernel_rfl) (by intro _ _ _ h; cases h.1) (Or.inl ⟨by rfl, ?_⟩) (by assumption) ?_
      rotate_left
      · (intro w9 hSw; (try dsimp only at hSw); go_simp; first | done | with_reducible rfl)
      try simp only [Act.put, List.setIfInBounds_toArray, List.set_cons_zero, List.set_cons_succ]
      refine wpAnyH_ready (rs := [0, 3]) (by kernel_rfl) (by simp) ?_
      refine AllReadyH.cons (o := _) (by rw [List.getElem?_toArray]; rfl) (fun K hK => ?_) ?nx17
      rotate_left
      case nx17 =>
        refine AllReadyH.cons (o := _) (by rw [List.getElem?_toArray]; rfl) (fun K hK => ?_) AllReadyH.nil
        go_simp
        refine (HQf.out _).mono ?_
        rintro e w19_ ⟨x19, rfl, hown19, hb19⟩
        obtain ⟨r19, c19, cur19, rfl, hrb19, _⟩ := own_form hown19 (by omega)
        have hz19 := hb19.size
        have hF19 := HF4.out.drew.call hb19
        have hrb19 := own_call (W := w4.drew) hrow4 hb19
        go_wp2_with fail
        refine hK.out _ _ ?hS (fun hHeld => ?_)
        case hS => exact ⟨hF19.ax.at_ rfl, hF19.ax.at_ rfl⟩
        clear hK K
        try simp only [Act.put, List.setIfInBounds_toArray, List.set_cons_zero, List.set_cons_succ]
        refine wpAnyH_ready (rs := [0]) (by kernel_rfl) (by simp) ?_
        refine AllReadyH.cons (o := _) (by rw [List.getElem?_toArray]; rfl) (fun K hK => ?_) AllReadyH.nil
        have sb21 := hF19.ab.cell
        go_simp
        refine hK.out _ _ ?hS (fun hHeld => ?_)
        case hS => exact ⟨hF19.ax.at_ rfl, hF19.ax.at_ rfl⟩
        clear hK K
        try simp only [Act.put, List.setIfInBounds_toArray, List.set_cons_zero, List.set_cons_succ]
        refine wpAnyH_ready (rs := [4]) (by kernel_rfl) (by simp) ?_
        refine AllReadyH.cons (o := _) (by rw [List.getElem?_toArray]; rfl) (fun K hK => ?_) AllReadyH.nil
        refine step_append_lies _ (by rfl) (.tmp 23) (.tmp 26) 36 (by rfl) base 5 i0 (.int .u8 0) 1 1 Try.underlying36 hi hz0 hz1 hz2 rfl (by decide) (.slice (some ⟨g1, 0, none⟩) m1 cap1) (m1) (bl1.map bv) (by rfl) hrb19 ⟨r19, 0, none⟩ kf c19 (sf.map bv) (by rfl) (by rw [List.length_map, ← HKf.out, Nat.mul_one]) (fun j u hu => by rw [add_addr]; exact own_cell hown19 hu) (by intro u hu; obtain ⟨q, _, rfl⟩ := List.mem_map.1 hu; rfl) (by omega) (by unfold maxLen; omega) (by omega) (Nat.le_trans hbw (Nat.le_trans hsz4 hF19.bl.size)) _ rfl ?_
        intro g23 cap23 w23_ hown23 hg23 hat23 hlt23
        have hF23 := hF19.app hrb19 hg23
        refine hK.out _ _ ?hS (fun hHeld => ?_)
        case hS => exact ⟨hF23.ax.at_ rfl, hF23.ax.at_ rfl⟩
        clear hK K
        try simp only [Act.put, List.setIfInBounds_toArray, List.set_cons_zero, List.set_cons_succ]
        refine wpAnyH_ready (rs := [7]) (by kernel_rfl) (by simp) ?_
        refine AllReadyH.cons (o := _) (by rw [List.getElem?_toArray]; rfl) (fun K hK => ?_) AllReadyH.nil
        go_simp
        refine (HQt.out _).mono ?_
        rintro e w25_ ⟨x25, rfl, hown25, hb25⟩
        obtain ⟨r25, c25, cur25, rfl, hrb25, _⟩ := own_form hown25 (by omega)
        have hz25 := hb25.size
        have hF25 := hF23.call hb25
        have hrd25 := own_call (W := w23_) hown23 hb25
        go_wp2_with fail
        refine hK.out _ _ ?hS (fun hHeld => ?_)
        case hS => exact ⟨hF25.ax.at_ rfl, hF25.ax.at_ rfl⟩
        clear hK K
        try simp only [Act.put, List.setIfInBounds_toArray, List.set_cons_zero, List.set_cons_succ]
        refine wpAnyH_ready (rs := [8]) (by kernel_rfl) (by simp) ?_
        refine AllReadyH.cons (o := _) (by rw [List.getElem?_toArray]; rfl) (fun K hK => ?_) AllReadyH.nil
        refine step_append_lies _ (by rfl) (.tmp 27) (.tmp 30) 36 (by rfl) base 5 i0 (.int .u8 0) 1 1 Try.underlying36 hi hz0 hz1 hz2 rfl (by decide) (.slice (some ⟨g23, 0, none⟩) (m1 + kf) cap23) (m1 + kf) (bl1.map bv ++ (sf.map bv)) (by rfl) hrd25 ⟨r25, 0, none⟩ kt c25 (st.map bv) (by rfl) (by rw [List.length_map, ← HKt.out, Nat.mul_one]) (fun j u hu => by rw [add_addr]; exact own_cell hown25 hu) (by intro u hu; obtain ⟨q, _, rfl⟩ := List.mem_map.1 hu; rfl) (by omega) (by unfold maxLen; omega) (by omega) (Nat.le_trans hbw (Nat.le_trans hsz4 hF25.bl.size)) _ rfl ?_
        intro g27 cap27 w27_ hown27 hg27 hat27 hlt27
        have hF27 := hF25.app hrd25 hg27
        refine hK.out _ _ ?hS (fun hHeld => ?_)
        case hS => exact ⟨hF27.ax.at_ rfl, hF27.ax.at_ rfl⟩
        clear hK K
        try simp only [Act.put, List.setIfInBounds_toArray, List.set_cons_zero, List.set_cons_succ]
        refine wpAnyH_ready (rs := [9]) (by kernel_rfl) (by simp) ?_
        refine AllReadyH.cons (o := _) (by rw [List.getElem?_toArray]; rfl) (fun K hK => ?_) AllReadyH.nil
        have sb29 := hF27.ab.cell
        have sf29 := hF27.ab.frozen
        go_simp
        have hF29 := hF27.store (.slice (some ⟨g27, 0, none⟩) (m1 + kf + kt) cap27)
        have hre29 := own_store hF27 hown27 (.slice (some ⟨g27, 0, none⟩) (m1 + kf + kt) cap27)
        refine hK.out _ _ ?hS (fun hHeld => ?_)
        case hS => exact ⟨hF29.ax.at_ rfl, hF29.ax.at_ rfl⟩
        clear hK K
        try simp only [Act.put, List.setIfInBounds_toArray, List.set_cons_zero, List.set_cons_succ]
        refine wpAnyH_done (by kernel_rfl) ?_ _
        exact ⟨rfl, St.mk hF29 hre29 (by rw [HM1.out.1, HKf.out, HKt.out]; simp; omega) (by simp), _, _, _, _, _, _, _, _, _, rfl⟩
      have sb30 := HF4.out.drew.ab.cell
      go_simp
      refine hK.out _ _ ?hS (fun hHeld => ?_)
      case hS => exact ⟨HF4.out.drew.ax.at_ rfl, HF4.out.drew.ax.at_ rfl⟩
      clear hK K
      try simp only [Act.put, List.setIfInBounds_toArray, List.set_cons_zero, List.set_cons_succ]
      refine wpAnyH_ready (rs := [3]) (by kernel_rfl) (by simp) ?_
      refine AllReadyH.cons (o := _) (by rw [List.getElem?_toArray]; rfl) (fun K hK => ?_) AllReadyH.nil
      go_simp
      refine (HQf.out _).mono ?_
      rintro e w32_ ⟨x32, rfl, hown32, hb32⟩
      obtain ⟨r32, c32, cur32, rfl, hrb32, _⟩ := own_form hown32 (by omega)
      have hz32 := hb32.size
      have hF32 := HF4.out.drew.call hb32
      have hrb32 := own_call (W := w4.drew) hrow4 hb32
      go_wp2_with fail
      refine hK.out _ _ ?hS (fun hHeld => ?_)
      case hS => exact ⟨hF32.ax.at_ rfl, hF32.ax.at_ rfl⟩
      clear hK K
      try simp only [Act.put, List.setIfInBounds_toArray, List.set_cons_zero, List.set_cons_succ]
      refine wpAnyH_ready (rs := [4]) (by kernel_rfl) (by simp) ?_
      refine AllReadyH.cons (o := _) (by rw [List.getElem?_toArray]; rfl) (fun K hK => ?_) AllReadyH.nil
      refine step_append_lies _ (by rfl) (.tmp 23) (.tmp 26) 36 (by rfl) base 5 i0 (.int .u8 0) 1 1 Try.underlying36 hi hz0 hz1 hz2 rfl (by decide) (.slice (some ⟨g1, 0, none⟩) m1 cap1) (m1) (bl1.map bv) (by rfl) hrb32 ⟨r32, 0, none⟩ kf c32 (sf.map bv) (by rfl) (by rw [List.length_map, ← HKf.out, Nat.mul_one]) (fun j u hu => by rw [add_addr]; exact own_cell hown32 hu) (by intro u hu; obtain ⟨q, _, rfl⟩ := List.mem_map.1 hu; rfl) (by omega) (by unfold maxLen; omega) (by omega) (Nat.le_trans hbw (Nat.le_trans hsz4 hF32.bl.size)) _ rfl ?_
      intro g34 cap34 w34_ hown34 hg34 hat34 hlt34
      have hF34 := hF32.app hrb32 hg34
      refine hK.out _ _ ?hS (fun hHeld => ?_)
      case hS => exact ⟨hF34.ax.at_ rfl, hF34.ax.at_ rfl⟩
      clear hK K
      try simp only [Act.put, List.setIfInBounds_toArray, List.set_cons_zero, List.set_cons_succ]
      refine wpAnyH_ready (rs := [7]) (by kernel_rfl) (by simp) ?_
      refine AllReadyH.cons (o := _) (by rw [List.getElem?_toArray]; rfl) (fun K hK => ?_) AllReadyH.nil
      go_simp
      refine (HQt.out _).mono ?_
      rintro e w36_ ⟨x36, rfl, hown36, hb36⟩
      obtain ⟨r36, c36, cur36, rfl, hrb36, _⟩ := own_form hown36 (by omega)
      have hz36 := hb36.size
      have hF36 := hF34.call hb36
      have hrd36 := own_call (W := w34_) hown34 hb36
      go_wp2_with fail
      refine hK.out _ _ ?hS (fun hHeld => ?_)
      case hS => exact ⟨hF36.ax.at_ rfl, hF36.ax.at_ rfl⟩
      clear hK K
      try simp only [Act.put, List.setIfInBounds_toArray, List.set_cons_zero, List.set_cons_succ]
      refine wpAnyH_ready (rs := [8]) (by kernel_rfl) (by simp) ?_
      refine AllReadyH.cons (o := _) (by rw [List.getElem?_toArray]; rfl) (fun K hK => ?_) AllReadyH.nil
      refine step_append_lies _ (by rfl) (.tmp 27) (.tmp 30) 36 (by rfl) base 5 i0 (.int .u8 0) 1 1 Try.underlying36 hi hz0 hz1 hz2 rfl (by decide) (.slice (some ⟨g34, 0, none⟩) (m1 + kf) cap34) (m1 + kf) (bl1.map bv ++ (sf.map bv)) (by rfl) hrd36 ⟨r36, 0, none⟩ kt c36 (st.map bv) (by rfl) (by rw [List.length_map, ← HKt.out, Nat.mul_one]) (fun j u hu => by rw [add_addr]; exact own_cell hown36 hu) (by intro u hu; obtain ⟨q, _, rfl⟩ := List.mem_map.1 hu; rfl) (by omega) (by unfold maxLen; omega) (by omega) (Nat.le_trans hbw (Nat.le_trans hsz4 hF36.bl.size)) _ rfl ?_
      intro g38 cap38 w38_ hown38 hg38 hat38 hlt38
      have hF38 := hF36.app hrd36 hg38
      refine hK.out _ _ ?hS (fun hHeld => ?_)
      case hS => exact ⟨hF38.ax.at_ rfl, hF38.ax.at_ rfl⟩
      clear hK K
      try simp only [Act.put, List.setIfInBounds_toArray, List.set_cons_zero, List.set_cons_succ]
      refine wpAnyH_ready (rs := [9]) (by kernel_rfl) (by simp) ?_
      refine AllReadyH.cons (o := _) (by rw [List.getElem?_toArray]; rfl) (fun K hK => ?_) AllReadyH.nil
      have sb40 := hF38.ab.cell
      have sf40 := hF38.ab.frozen
      go_simp
      have hF40 := hF38.store (.slice (some ⟨g38, 0, none⟩) (m1 + kf + kt) cap38)
      have hre40 := own_store hF38 hown38 (.slice (some ⟨g38, 0, none⟩) (m1 + kf + kt) cap38)
      refine hK.out _ _ ?hS (fun hHeld => ?_)
      case hS => exact ⟨hF40.ax.at_ rfl, hF40.ax.at_ rfl⟩
      clear hK K
      try simp only [Act.put, List.setIfInBounds_toArray, List.set_cons_zero, List.set_cons_succ]
      refine wpAnyH_done (by kernel_rfl) ?_ _
      exact ⟨rfl, St.mk hF40 hre40 (by rw [HM1.out.1, HKf.out, HKt.out]; simp; omega) (by simp), _, _, _, _, _, _, _, _, _, rfl⟩
    refine wpAnyH_take (i := 1) (oi := _) (v := ?_) (by rw [List.getElem?_toArray]; rfl) (by kernel_rfl) (by kernel_rfl) (by kernel_rfl) (by intro _ _ _ h; cases h.1) (Or.inl ⟨by rfl, ?_⟩) (by assumption) ?_
    rotate_left
    · (intro w9 hSw; (try dsimp only at hSw); go_simp; first | done | with_reducible rfl)
    try simp only [Act.put, List.setIfInBounds_toArray, List.set_cons_zero, List.set_cons_succ]
    refine wpAnyH_take (i := 2) (oi := _) (v := ?_) (by rw [List.getElem?_toArray]; rfl) (by kernel_rfl) (by kernel_rfl) (by kernel_rfl) (by intro _ _ _ h; cases h.1) (Or.inl ⟨by rfl, ?_⟩) (by assumption) ?_
    rotate_left
    · (intro w9 hSw; (try dsimp only at hSw); go_simp; first | done | with_reducible rfl)
    try simp only [Act.put, List.setIfInBounds_toArray, List.set_cons_zero, List.set_cons_succ]
    refine wpAnyH_take (i := 3) (oi := _) (v := ?_) (by rw [List.getElem?_toArray]; rfl) (by kernel_rfl) (by kernel_rfl) (by kernel_rfl) (by intro _ _ _ h; cases h.1) (Or.inl ⟨by rfl, ?_⟩) (by assumption) ?_
    rotate_left
    · (intro w9 hSw; (try dsimp only at hSw); go_simp; first | done | with_reducible rfl)
    try simp only [Act.put, List.setIfInBounds_toArray, List.set_cons_zero, List.set_cons_succ]
    refine wpAnyH_take (i := 6) (oi := _) (v := ?_) (by rw [List.getElem?_toArray]; rfl) (by kernel_rfl) (by kernel_rfl) (by kernel_rfl) (by intro _ _ _ h; cases h.1) (Or.inl ⟨by rfl, ?_⟩) (by assumption) ?_
    rotate_left
    · (intro w9 hSw; (try dsimp only at hSw); go_simp; first | done | with_reducible rfl)
    try simp only [Act.put, List.setIfInBounds_toArray, List.set_cons_zero, List.set_cons_succ]
    refine wpAnyH_take (i := 7) (oi := _) (v := ?_) (by rw [List.getElem?_toArray]; rfl) (by kernel_rfl) (by kernel_rfl) (by kernel_rfl) (by intro _ _ _ h; cases h.1) (Or.inl ⟨by rfl, ?_⟩) (by assumption) ?_
    rotate_left
    · (intro w9 hSw; (try dsimp only at hSw); go_simp; first | done | with_reducible rfl)
    try simp only [Act.put, List.setIfInBounds_toArray, List.set_cons_zero, List.set_cons_succ]
    refine wpAnyH_ready (rs := [0, 4]) (by kernel_rfl) (by simp) ?_
    refine AllReadyH.cons (o := _) (by rw [List.getElem?_toArray]; rfl) (fun K hK => ?_) ?nx41
    rotate_left
    case nx41 =>
      refine AllReadyH.cons (o := _) (by rw [List.getElem?_toArray]; rfl) (fun K hK => ?_) AllReadyH.nil
      go_simp
      refine (HQs.out _).mono ?_
      rintro e w43_ ⟨x43, rfl, hown43, hb43⟩
      obtain ⟨r43, c43, cur43, rfl, hrb43, _⟩ := own_form hown43 (by omega)
      have hz43 := hb43.size
      have hF43 := HF.out.drew.call hb43
      have hrb43 := own_call (W := W.drew) hrow hb43
      go_wp2_with fail
      refine hK.out _ _ ?hS (fun hHeld => ?_)
      case hS => exact hF43.ax.at_ rfl
      clear hK K
      try simp only [Act.put, List.setIfInBounds_toArray, List.set_cons_zero, List.set_cons_succ]
      refine wpAnyH_ready (rs := [0]) (by kernel_rfl) (by simp) ?_
      refine AllReadyH.cons (o := _) (by rw [List.getElem?_toArray]; rfl) (fun K hK => ?_) AllReadyH.nil
      have sb45 := hF43.ab.cell
      go_simp
      refine hK.out _ _ ?hS (fun hHeld => ?_)
      case hS => exact hF43.ax.at_ rfl
      clear hK K
      try simp only [Act.put, List.setIfInBounds_toArray, List.set_cons_zero, List.set_cons_succ]
      refine wpAnyH_ready (rs := [5]) (by kernel_rfl) (by simp) ?_
      refine AllReadyH.cons (o := _) (by rw [List.getElem?_toArray]; rfl) (fun K hK => ?_) AllReadyH.nil
      refine step_append_lies _ (by rfl) (.tmp 14) (.tmp 18) 36 (by rfl) base 5 i0 (.int .u8 0) 1 1 Try.underlying36 hi hz0 hz1 hz2 rfl (by decide) (.slice (some ⟨g, 0, none⟩) m cap) (m) (bl.map bv) (by rfl) hrb43 ⟨r43, 0, none⟩ ks c43 (ss.map bv) (by rfl) (by rw [List.length_map, ← HKs.out, Nat.mul_one]) (fun j u hu => by rw [add_addr]; exact own_cell hown43 hu) (by intro u hu; obtain ⟨q, _, rfl⟩ := List.mem_map.1 hu; rfl) (by omega) (by unfold maxLen; omega) (by omega) (Nat.le_trans hbw (Nat.le_trans hsz4 hF43.bl.size)) _ rfl ?_
      intro g47 cap47 w47_ hown47 hg47 hat47 hlt47
      have hF47 := hF43.app hrb43 hg47
      refine hK.out _ _ ?hS (fun hHeld => ?_)
      case hS => exact hF47.ax.at_ rfl
      clear hK K
      try simp only [Act.put, List.setIfInBounds_toArray, List.set_cons_zero, List.set_cons_succ]
      refine wpAnyH_ready (rs := [8]) (by kernel_rfl) (by simp) ?_
      refine AllReadyH.cons (o := _) (by rw [List.getElem?_toArray]; rfl) (fun K hK => ?_) AllReadyH.nil
      refine step_append_str (by rfl) (.tmp 19) (.tmp 21) 36 9 (by rfl) base 5 i0 Try.underlying36 Try.underlying9 hi hz0 hz1 hz2 (.slice (some ⟨g47, 0, none⟩) (m + ks) cap47) (m + ks) (bl.map bv ++ (ss.map bv)) (by rfl) hown47 n (by rfl) (by omega) (by unfold maxLen; omega) (by omega) (Nat.le_trans hbw (Nat.le_trans hsz4 hF47.bl.size)) ?_
      intro g49 cap49 w49_ hown49 hg49
      have hF49 := hF47.app hown47 hg49
      refine hK.out _ _ ?hS (fun hHeld => ?_)
      case hS => exact hF49.ax.at_ rfl
      clear hK K
      try simp only [Act.put, List.setIfInBounds_toArray, List.set_cons_zero, List.set_cons_succ]
      refine wpAnyH_ready (rs := [9]) (by kernel_rfl) (by simp) ?_
      refine AllReadyH.cons (o := _) (by rw [List.getElem?_toArray]; rfl) (fun K hK => ?_) AllReadyH.nil
      have sb51 := hF49.ab.cell
      have sf51 := hF49.ab.frozen
      go_simp
      have hF51 := hF49.store (.slice (some ⟨g49, 0, none⟩) (m + ks + n.size) cap49)
      have hre51 := own_store hF49 hown49 (.slice (some ⟨g49, 0, none⟩) (m + ks + n.size) cap49)
      refine hK.out _ _ ?hS (fun hHeld => ?_)
      case hS => exact hF51.ax.at_ rfl
      clear hK K
      try simp only [Act.put, List.setIfInBounds_toArray, List.set_cons_zero, List.set_cons_succ]
      refine wpAnyH_done (by kernel_rfl) ?_ _
      exact ⟨rfl, St.mk hF51 hre51 (by rw [HM.out.1, HKs.out]; simp [nb_len]; omega) (by rw [nb_cells]; simp), _, _, _, _, _, _, _, _, _, rfl⟩
    have sb52 := HF.out.drew.ab.cell
    go_simp
    refine hK.out _ _ ?hS (fun hHeld => ?_)
    case hS => exact HF.out.drew.ax.at_ rfl
    clear hK K
    try simp only [Act.put, List.setIfInBounds_toArray, List.set_cons_zero, List.set_cons_succ]
    refine wpAnyH_ready (rs := [4]) (by kernel_rfl) (by simp) ?_
    refine AllReadyH.cons (o := _) (by rw [List.getElem?_toArray]; rfl) (fun K hK => ?_) AllReadyH.nil
    go_simp
    refine (HQs.out _).mono ?_
    rintro e w54_ ⟨x54, rfl, hown54, hb54⟩
    obtain ⟨r54, c54, cur54, rfl, hrb54, _⟩ := own_form hown54 (by omega)
    have hz54 := hb54.size
    have hF54 := HF.out.drew.call hb54
    have hrb54 := own_call (W := W.drew) hrow hb54
    go_wp2_with fail
    refine hK.out _ _ ?hS (fun hHeld => ?_)
    case hS => exact hF54.ax.at_ rfl
    clear hK K
    try simp only [Act.put, List.setIfInBounds_toArray, List.set_cons_zero, List.set_cons_succ]
    refine wpAnyH_ready (rs := [5]) (by kernel_rfl) (by simp) ?_
    refine AllReadyH.cons (o := _) (by rw [List.getElem?_toArray]; rfl) (fun K hK => ?_) AllReadyH.nil
    refine step_append_lies _ (by rfl) (.tmp 14) (.tmp 18) 36 (by rfl) base 5 i0 (.int .u8 0) 1 1 Try.underlying36 hi hz0 hz1 hz2 rfl (by decide) (.slice (some ⟨g, 0, none⟩) m cap) (m) (bl.map bv) (by rfl) hrb54 ⟨r54, 0, none⟩ ks c54 (ss.map bv) (by rfl) (by rw [List.length_map, ← HKs.out, Nat.mul_one]) (fun j u hu => by rw [add_addr]; exact own_cell hown54 hu) (by intro u hu; obtain ⟨q, _, rfl⟩ := List.mem_map.1 hu; rfl) (by omega) (by unfold maxLen; omega) (by omega) (Nat.le_trans hbw (Nat.le_trans hsz4 hF54.bl.size)) _ rfl ?_
    intro g56 cap56 w56_ hown56 hg56 hat56 hlt56
    have hF56 := hF54.app hrb54 hg56
    refine hK.out _ _ ?hS (fun hHeld => ?_)
    case hS => exact hF56.ax.at_ rfl
    clear hK K
    try simp only [Act.put, List.setIfInBounds_toArray, List.set_cons_zero, List.set_cons_succ]
    refine wpAnyH_ready (rs := [8]) (by kernel_rfl) (by simp) ?_
    refine AllReadyH.cons (o := _) (by rw [List.getElem?_toArray]; rfl) (fun K hK => ?_) AllReadyH.nil
    refine step_append_str (by rfl) (.tmp 19) (.tmp 21) 36 9 (by rfl) base 5 i0 Try.underlying36 Try.underlying9 hi hz0 hz1 hz2 (.slice (some ⟨g56, 0, none⟩) (m + ks) cap56) (m + ks) (bl.map bv ++ (ss.map bv)) (by rfl) hown56 n (by rfl) (by omega) (by unfold maxLen; omega) (by omega) (Nat.le_trans hbw (Nat.le_trans hsz4 hF56.bl.size)) ?_
    intro g58 cap58 w58_ hown58 hg58
    have hF58 := hF56.app hown56 hg58
    refine hK.out _ _ ?hS (fun hHeld => ?_)
    case hS => exact hF58.ax.at_ rfl
    clear hK K
    try simp only [Act.put, List.setIfInBounds_toArray, List.set_cons_zero, List.set_cons_succ]
    refine wpAnyH_ready (rs := [9]) (by kernel_rfl) (by simp) ?_
    refine AllReadyH.cons (o := _) (by rw [List.getElem?_toArray]; rfl) (fun K hK => ?_) AllReadyH.nil
    have sb60 := hF58.ab.cell
    have sf60 := hF58.ab.frozen
    go_simp
    have hF60 := hF58.store (.slice (some ⟨g58, 0, none⟩) (m + ks + n.size) cap58)
    have hre60 := own_store hF58 hown58 (.slice (some ⟨g58, 0, none⟩) (m + ks + n.size) cap58)
    refine hK.out _ _ ?hS (fun hHeld => ?_)
    case hS => exact hF60.ax.at_ rfl
    clear hK K
    try simp only [Act.put, List.setIfInBounds_toArray, List.set_cons_zero, List.set_cons_succ]
    refine wpAnyH_done (by kernel_rfl) ?_ _
    exact ⟨rfl, St.mk hF60 hre60 (by rw [HM.out.1, HKs.out]; simp [nb_len]; omega) (by rw [nb_cells]; simp), _, _, _, _, _, _, _, _, _, rfl⟩
  case done =>
    rintro D x W hD ⟨⟨v, hv, hrow⟩, hxt, hb, hA, hs, hx⟩ hK
    rw [pkTo_end] at hrow
    have cv := hv.cell
    have HX := Lib.hid (And.intro hD (And.intro hb (And.intro hs hrow)))
    clear hrow hb
    gi_wp2
    refine ⟨by simp, .inl ⟨_, _, rfl, run_takeDeferred hK, ?_⟩⟩
    obtain ⟨hD, hb, hs, hrow⟩ := HX.out
    have hbs := HBASE.out
    subst hbs
    exact ⟨_, results_tmp rfl _ _ _, v, rfl, ownsRow_putObj hrow _ hK rfl, hb.grown (grownBy_putObj' W _ _) hb.size (fun r e => by injection e with e; omega)⟩
end Go.Proofs.Ytghklmhmhekjgaa
