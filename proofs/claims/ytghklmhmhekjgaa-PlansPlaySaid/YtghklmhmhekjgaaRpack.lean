/- What the reference's PackPlans tells: the bytes of a list of plans. Conditions: plans that may be, at most 1000. -/
import Derived.Test.YtghklmhmhekjgaaPk
import Derived.Test.YtghklmhmhekjgaaOpenP
namespace Go.Proofs.Ytghklmhmhekjgaa
open Go.RowKit PC

/-- What a round of PackPlans keeps, from its start W1 on. -/
structure Gr (base Bx : Nat) (cs : Array Value) (W1 W : World) : Prop where
  bl : Below base W1 W
  ax : Arr W Bx 27 cs
  hb : base ≤ Bx
section
variable {base Bx : Nat} {cs : Array Value} {W1 W W' : World}
theorem Gr.drew (h : Gr base Bx cs W1 W) : Gr base Bx cs W1 W.drew := ⟨h.bl.drew, h.ax, h.hb⟩
theorem Gr.call (h : Gr base Bx cs W1 W) (k : Below W.heap.size W W') : Gr base Bx cs W1 W' := ⟨h.bl.trans (k.mono (by have := h.ax.lt; have := h.hb; omega)), h.ax.below k h.ax.lt, h.hb⟩
theorem Gr.app {m : Nat} {xs : List Value} {u : Value} (h : Gr base Bx cs W1 W) (hrow : W.ownsRow base 5 1 u m xs) (hg : W.grownBy W' u.ownBlock) : Gr base Bx cs W1 W' :=
  ⟨h.bl.grown hg (by have := h.ax.lt; have := h.hb; omega) (fun j ej => (hrow.lt j ej).1), h.ax.grown hg (own_ne hrow h.ax (by decide)), h.hb⟩
end

set_option maxRecDepth 100000 in
set_option maxHeartbeats 8000000 in
theorem rpack25 (A : Option Addr) (N c : Nat) (L : List Pl) (w : World) (h0 : Pv w w.heap.size A N L) (hL : N ≤ 1000) (hok : ∀ p ∈ L, OkP p.n p.f p.t p.r) :
    Calls Try.prog 25 #[.slice A N c] w fun e w' => ∃ v, e = .returned v ∧ w'.ownsRow w.heap.size 5 1 v (packL L).length ((packL L).map bv) ∧ Below w.heap.size w w' := by
  obtain ⟨i0, hi, hz0, hz1, hz2⟩ := info_parts Try.info5
  have hpp := rvint_put ((N : Nat) : Int) w
  unfold VpPost at hpp
  rw [un_nat (by omega)] at hpp
  have hvl := vput_len N
  have hNL := h0.1
  have hp0 : pkTo L 0 = vput N := by unfold pkTo; rw [List.take_zero, List.flatMap_nil, List.append_nil, hNL]
  have hpk := pkTo_len (L := L) (fun p hp => by have := (hok p hp).2.2.1; omega)
  obtain ⟨base, hbase⟩ : ∃ base, base = w.heap.size := ⟨_, rfl⟩
  rw [← hbase] at hpp h0 ⊢
  have HBASE := Lib.hid hbase
  have HNL := Lib.hid hNL
  have HP0 := Lib.hid hp0
  clear hbase hNL hp0
  go_enter Try.func25, Try.ntmps25
  go_wp2_with fail
  refine hpp.mono ?_
  rintro e w1 ⟨v0, rfl, hown1, hb1⟩
  clear hpp
  go_wp2_with fail
  go_loopw [3, 4] (fun v i wr => ∃ k : Nat, k ≤ N ∧ i = .int .i64 k ∧ wr.ownsRow base 5 1 v (pkTo L k).length ((pkTo L k).map bv) ∧ Below base w wr) (fun _ i _ => N - (intOf i).toNat)
  case atStart => exact ⟨0, Nat.zero_le _, rfl, by rw [HP0.out]; exact hown1, hb1⟩
  case round =>
    obtain ⟨k, hk, rfl, hrow, hbr⟩ := hrel
    clear hown1 hb1
    by_cases hlt : k < N
    · obtain ⟨b1, off, rfl, hb1lt, hcs⟩ := (h0.below hbr).at4 hlt
      obtain ⟨p, hp⟩ : ∃ p, L[k]? = some p := ⟨_, List.getElem?_eq_getElem (by have := HNL.out; omega)⟩
      obtain ⟨q0, q1, q2, q3⟩ := hcs k p hp
      have hsu := pkTo_succ hp
      have hpok := hok _ (List.mem_of_getElem? hp)
      have hpkl := hpk k
      clear hp hcs
      obtain ⟨n, f, t, r⟩ := p
      simp only at q0 q1 q2 q3 hpok
      obtain ⟨_, _, hn64, hf1, hf2, ht1, ht2, _, hr1, hr2⟩ := hpok
      obtain ⟨bl, hbl⟩ : ∃ bl, bl = pkTo L k := ⟨_, rfl⟩
      rw [← hbl] at hrow hsu hpkl
      obtain ⟨m, hm⟩ : ∃ m, m = bl.length := ⟨_, rfl⟩
      rw [← hm] at hrow hpkl
      have hm9 : m ≤ 2000000000 := by omega
      obtain ⟨g, cap, cur, hgv, _⟩ := own_form hrow hpkl.1
      subst hgv
      have HM := Lib.hid (And.intro hm (And.intro hbl hsu))
      have hwr := hbr.size
      have hbo : base ≤ wr.heap.size := by have := HBASE.out; omega
      obtain ⟨wc, hwc⟩ : ∃ wc, wc = wr.alloc (.cells #[.string n, .int .i64 f, .int .i64 t, .int .i64 r] 27) := ⟨_, rfl⟩
      have hA : Arr wc wr.heap.size 27 #[.string n, .int .i64 f, .int .i64 t, .int .i64 r] := by rw [hwc]; exact Arr.new wr 27 _
      have hbc : Below base wr wc := by rw [hwc]; exact (Below.refl _ wr).alloc hbo _
      have hrowc : wc.ownsRow base 5 1 (.slice (some ⟨g, 0, none⟩) m cap) m (bl.map bv) := by rw [hwc]; exact hrow.alloc _
      have HF := Lib.hid (show Gr base wr.heap.size #[.string n, .int .i64 f, .int .i64 t, .int .i64 r] wr wc from ⟨hbc, hA, hbo⟩)
      have e0 : wc.cell? ⟨wr.heap.size, 0, none⟩ = some (.string n) := hA.at_ rfl
      have HBR := Lib.hid hbr
      have HWC := Lib.hid hwc
      clear hm hbl hsu hpkl hrow hA hbc hwc hbr
      have hqs : ∀ W', Calls Try.prog 38 #[.int .i64 ((n.size : Nat) : Int)] W' fun e w' => ∃ x, e = .returned x ∧ w'.ownsRow W'.heap.size 5 1 x (vput n.size).length ((vput n.size).map bv) ∧ Below W'.heap.size W' w' := fun W' => by have := rvint_put ((n.size : Nat) : Int) W'; unfold VpPost at this; rwa [un_nat (by omega)] at this
      have hlvs := vput_len (n.size)
      obtain ⟨ss, hss⟩ : ∃ s, s = vput (n.size) := ⟨_, rfl⟩
      rw [← hss] at hqs hlvs
      obtain ⟨ks, hks⟩ : ∃ z, z = ss.length := ⟨_, rfl⟩
      rw [← hks] at hqs hlvs
      have HQs := Lib.hid hqs
      have HSs := Lib.hid hss
      have HKs := Lib.hid hks
      clear hqs hss hks
      go_wp2_with fail
      rw [← HWC.out]
      refine wp_region_held_drew (S := fun w' => w'.cell? ⟨wr.heap.size, 0, none⟩ = some (.string n)) (by kernel_rfl) ?hS (fun hHeld => ?_)
      case hS => exact e0
      refine wpAnyH_take (i := 0) (oi := _) (v := ?_) (by rw [List.getElem?_toArray]; rfl) (by kernel_rfl) (by kernel_rfl) (by kernel_rfl) (by exact fun _ _ _ h => h) (Or.inl ⟨by rfl, ?_⟩) (by assumption) ?_
      rotate_left
      · (intro w9 hSw; (try dsimp only at hSw); go_simp; first | done | with_reducible rfl)
      try simp only [Act.put, List.setIfInBounds_toArray, List.set_cons_zero, List.set_cons_succ]
      refine wpAnyH_take (i := 1) (oi := _) (v := ?_) (by rw [List.getElem?_toArray]; rfl) (by kernel_rfl) (by kernel_rfl) (by kernel_rfl) (by exact fun _ _ _ h => h) (Or.inl ⟨by rfl, ?_⟩) (by assumption) ?_
      rotate_left
      · (intro w9 hSw; (try dsimp only at hSw); go_simp; first | done | with_reducible rfl)
      try simp only [Act.put, List.setIfInBounds_toArray, List.set_cons_zero, List.set_cons_succ]
      refine wpAnyH_take (i := 2) (oi := _) (v := ?_) (by rw [List.getElem?_toArray]; rfl) (by kernel_rfl) (by kernel_rfl) (by kernel_rfl) (by exact fun _ _ _ h => h) (Or.inl ⟨by rfl, ?_⟩) (by assumption) ?_
      rotate_left
      · (intro w9 hSw; (try dsimp only at hSw); go_simp; first | done | with_reducible rfl)
      try simp only [Act.put, List.setIfInBounds_toArray, List.set_cons_zero, List.set_cons_succ]
      refine wpAnyH_take (i := 3) (oi := _) (v := ?_) (by rw [List.getElem?_toArray]; rfl) (by kernel_rfl) (by kernel_rfl) (by kernel_rfl) (by exact fun _ _ _ h => h) (Or.inl ⟨by rfl, ?_⟩) (by assumption) ?_
      rotate_left
      · (intro w9 hSw; (try dsimp only at hSw); go_simp; first | done | with_reducible rfl)
      try simp only [Act.put, List.setIfInBounds_toArray, List.set_cons_zero, List.set_cons_succ]
      refine wpAnyH_take (i := 6) (oi := _) (v := ?_) (by rw [List.getElem?_toArray]; rfl) (by kernel_rfl) (by kernel_rfl) (by kernel_rfl) (by exact fun _ _ _ h => h) (Or.inl ⟨by rfl, ?_⟩) (by assumption) ?_
      rotate_left
      · (intro w9 hSw; (try dsimp only at hSw); go_simp; first | done | with_reducible rfl)
      try simp only [Act.put, List.setIfInBounds_toArray, List.set_cons_zero, List.set_cons_succ]
      refine wpAnyH_take (i := 7) (oi := _) (v := ?_) (by rw [List.getElem?_toArray]; rfl) (by kernel_rfl) (by kernel_rfl) (by kernel_rfl) (by exact fun _ _ _ h => h) (Or.inl ⟨by rfl, ?_⟩) (by assumption) ?_
      rotate_left
      · (intro w9 hSw; (try dsimp only at hSw); go_simp; first | done | with_reducible rfl)
      try simp only [Act.put, List.setIfInBounds_toArray, List.set_cons_zero, List.set_cons_succ]
      refine wpAnyH_ready (rs := [4]) (by kernel_rfl) (by simp) ?_
      refine AllReadyH.cons (o := _) (by rw [List.getElem?_toArray]; rfl) (fun K hK => ?_) AllReadyH.nil
      go_simp
      refine (HQs.out _).mono ?_
      rintro e w3 ⟨x3, rfl, hown3, hb3⟩
      obtain ⟨r3, c3, cur3, rfl, hrb3, _⟩ := own_form hown3 (by omega)
      have hF3 := HF.out.drew.call hb3
      have hrow3 := own_call (W := wc.drew) hrowc hb3
      go_wp2_with fail
      refine hK.out _ _ ?hS (fun hHeld => ?_)
      case hS => exact hF3.ax.at_ rfl
      clear hK K
      try simp only [Act.put, List.setIfInBounds_toArray, List.set_cons_zero, List.set_cons_succ]
      refine wpAnyH_ready (rs := [5]) (by kernel_rfl) (by simp) ?_
      refine AllReadyH.cons (o := _) (by rw [List.getElem?_toArray]; rfl) (fun K hK => ?_) AllReadyH.nil
      refine step_append_lies _ (by rfl) (.tmp 19) (.tmp 23) 36 (by rfl) base 5 i0 (.int .u8 0) 1 1 Try.underlying36 hi hz0 hz1 hz2 rfl (by decide) (.slice (some ⟨g, 0, none⟩) m cap) (m) (bl.map bv) (by rfl) hrow3 ⟨r3, 0, none⟩ ks c3 (ss.map bv) (by rfl) (by rw [List.length_map, ← HKs.out, Nat.mul_one]) (fun j u hu => by rw [add_addr]; exact own_cell hown3 hu) (by intro u hu; obtain ⟨q, _, rfl⟩ := List.mem_map.1 hu; rfl) (by omega) (by unfold maxLen; omega) (by omega) (Nat.le_trans hbo hF3.bl.size) _ rfl ?_
      intro g5 cap5 w5 hown5 hg5 hat5 hlt5
      have hF5 := hF3.app hrow3 hg5
      refine hK.out _ _ ?hS (fun hHeld => ?_)
      case hS => exact hF5.ax.at_ rfl
      clear hK K
      try simp only [Act.put, List.setIfInBounds_toArray, List.set_cons_zero, List.set_cons_succ]
      refine wpAnyH_ready (rs := [8]) (by kernel_rfl) (by simp) ?_
      refine AllReadyH.cons (o := _) (by rw [List.getElem?_toArray]; rfl) (fun K hK => ?_) AllReadyH.nil
      refine step_append_str (by rfl) (.tmp 24) (.tmp 26) 36 9 (by rfl) base 5 i0 Try.underlying36 Try.underlying9 hi hz0 hz1 hz2 (.slice (some ⟨g5, 0, none⟩) (m + ks) cap5) (m + ks) (bl.map bv ++ ss.map bv) (by rfl) hown5 n (by rfl) (by omega) (by unfold maxLen; omega) (by omega) (Nat.le_trans hbo hF5.bl.size) ?_
      intro g8 cap8 w8 hown8 hg8
      have hF8 := hF5.app hown5 hg8
      refine hK.out _ _ ?hS (fun hHeld => ?_)
      case hS => exact hF8.ax.at_ rfl
      clear hK K
      try simp only [Act.put, List.setIfInBounds_toArray, List.set_cons_zero, List.set_cons_succ]
      refine wpAnyH_take (i := 9) (oi := _) (v := ?_) (by rw [List.getElem?_toArray]; rfl) (by kernel_rfl) (by kernel_rfl) (by kernel_rfl) (by exact fun _ _ _ h => h) (Or.inl ⟨by rfl, ?_⟩) (by assumption) ?_
      rotate_left
      · (intro w9 hSw; (try dsimp only at hSw); go_simp; first | done | with_reducible rfl)
      try simp only [Act.put, List.setIfInBounds_toArray, List.set_cons_zero, List.set_cons_succ]
      refine wpAnyH_done (by kernel_rfl) ?_ _
      have e1 : w8.cell? ⟨wr.heap.size, 1, none⟩ = some (.int .i64 f) := hF8.ax.at_ rfl
      have e2 : w8.cell? ⟨wr.heap.size, 2, none⟩ = some (.int .i64 t) := hF8.ax.at_ rfl
      obtain ⟨m1, hm1⟩ : ∃ z, z = m + ks + n.size := ⟨_, rfl⟩
      rw [← hm1] at hown8 ⊢
      have hm1b : 0 < m1 ∧ m1 ≤ 2000000100 := by omega
      rw [nb_cells, ← List.map_append, ← List.map_append] at hown8
      obtain ⟨bl1, hbl1⟩ : ∃ l, l = bl ++ ss ++ nb n := ⟨_, rfl⟩
      rw [← hbl1] at hown8
      have HB1 := Lib.hid hbl1
      have HF8 := Lib.hid hF8
      clear hm1 hbl1 hF8 hF5 hF3 hown5 hown3 hrow3 hrowc hg8 hg5 e0
      have hqf : ∀ W', Calls Try.prog 39 #[.int .i64 f] W' fun e w' => ∃ x, e = .returned x ∧ w'.ownsRow W'.heap.size 5 1 x (vput (zig f)).length ((vput (zig f)).map bv) ∧ Below W'.heap.size W' w' := fun W' => rsigned39 f W' (by omega)
      have hqt : ∀ W', Calls Try.prog 39 #[.int .i64 t] W' fun e w' => ∃ x, e = .returned x ∧ w'.ownsRow W'.heap.size 5 1 x (vput (zig t)).length ((vput (zig t)).map bv) ∧ Below W'.heap.size W' w' := fun W' => rsigned39 t W' (by omega)
      have hlvf := vput_len (zig f)
      obtain ⟨sf, hsf⟩ : ∃ s, s = vput (zig f) := ⟨_, rfl⟩
      rw [← hsf] at hqf hlvf
      obtain ⟨kf, hkf⟩ : ∃ z, z = sf.length := ⟨_, rfl⟩
      rw [← hkf] at hqf hlvf
      have HQf := Lib.hid hqf
      have HSf := Lib.hid hsf
      have HKf := Lib.hid hkf
      clear hqf hsf hkf
      have hlvt := vput_len (zig t)
      obtain ⟨st, hst⟩ : ∃ s, s = vput (zig t) := ⟨_, rfl⟩
      rw [← hst] at hqt hlvt
      obtain ⟨kt, hkt⟩ : ∃ z, z = st.length := ⟨_, rfl⟩
      rw [← hkt] at hqt hlvt
      have HQt := Lib.hid hqt
      have HSt := Lib.hid hst
      have HKt := Lib.hid hkt
      clear hqt hst hkt
      go_wp2_with fail
      refine wp_region_held_drew (S := fun w' => w'.cell? ⟨wr.heap.size, 1, none⟩ = some (.int .i64 f) ∧ w'.cell? ⟨wr.heap.size, 2, none⟩ = some (.int .i64 t)) (by kernel_rfl) ?hS (fun hHeld => ?_)
      case hS => exact ⟨e1, e2⟩
      refine wpAnyH_take (i := 0) (oi := _) (v := ?_) (by rw [List.getElem?_toArray]; rfl) (by kernel_rfl) (by kernel_rfl) (by kernel_rfl) (by exact fun _ _ _ h => h) (Or.inl ⟨by rfl, ?_⟩) (by assumption) ?_
      rotate_left
      · (intro w9 hSw; (try dsimp only at hSw); go_simp; first | done | with_reducible rfl)
      try simp only [Act.put, List.setIfInBounds_toArray, List.set_cons_zero, List.set_cons_succ]
      refine wpAnyH_take (i := 1) (oi := _) (v := ?_) (by rw [List.getElem?_toArray]; rfl) (by kernel_rfl) (by kernel_rfl) (by kernel_rfl) (by exact fun _ _ _ h => h) (Or.inl ⟨by rfl, ?_⟩) (by assumption) ?_
      rotate_left
      · (intro w9 hSw; (try dsimp only at hSw); go_simp; first | done | with_reducible rfl)
      try simp only [Act.put, List.setIfInBounds_toArray, List.set_cons_zero, List.set_cons_succ]
      refine wpAnyH_take (i := 2) (oi := _) (v := ?_) (by rw [List.getElem?_toArray]; rfl) (by kernel_rfl) (by kernel_rfl) (by kernel_rfl) (by exact fun _ _ _ h => h) (Or.inl ⟨by rfl, ?_⟩) (by assumption) ?_
      rotate_left
      · (intro w9 hSw; (try dsimp only at hSw); go_simp; first | done | with_reducible rfl)
      try simp only [Act.put, List.setIfInBounds_toArray, List.set_cons_zero, List.set_cons_succ]
      refine wpAnyH_take (i := 5) (oi := _) (v := ?_) (by rw [List.getElem?_toArray]; rfl) (by kernel_rfl) (by kernel_rfl) (by kernel_rfl) (by exact fun _ _ _ h => h) (Or.inl ⟨by rfl, ?_⟩) (by assumption) ?_
      rotate_left
      · (intro w9 hSw; (try dsimp only at hSw); go_simp; first | done | with_reducible rfl)
      try simp only [Act.put, List.setIfInBounds_toArray, List.set_cons_zero, List.set_cons_succ]
      refine wpAnyH_take (i := 6) (oi := _) (v := ?_) (by rw [List.getElem?_toArray]; rfl) (by kernel_rfl) (by kernel_rfl) (by kernel_rfl) (by exact fun _ _ _ h => h) (Or.inl ⟨by rfl, ?_⟩) (by assumption) ?_
      rotate_left
      · (intro w9 hSw; (try dsimp only at hSw); go_simp; first | done | with_reducible rfl)
      try simp only [Act.put, List.setIfInBounds_toArray, List.set_cons_zero, List.set_cons_succ]
      refine wpAnyH_ready (rs := [3]) (by kernel_rfl) (by simp) ?_
      refine AllReadyH.cons (o := _) (by rw [List.getElem?_toArray]; rfl) (fun K hK => ?_) AllReadyH.nil
      go_simp
      refine (HQf.out _).mono ?_
      rintro e w11 ⟨x11, rfl, hown11, hb11⟩
      obtain ⟨r11, c11, cur11, rfl, hrb11, _⟩ := own_form hown11 (by omega)
      have hF11 := HF8.out.drew.call hb11
      have hrow11 := own_call (W := w8.drew) hown8 hb11
      go_wp2_with fail
      refine hK.out _ _ ?hS (fun hHeld => ?_)
      case hS => exact ⟨hF11.ax.at_ rfl, hF11.ax.at_ rfl⟩
      clear hK K
      try simp only [Act.put, List.setIfInBounds_toArray, List.set_cons_zero, List.set_cons_succ]
      refine wpAnyH_ready (rs := [4]) (by kernel_rfl) (by simp) ?_
      refine AllReadyH.cons (o := _) (by rw [List.getElem?_toArray]; rfl) (fun K hK => ?_) AllReadyH.nil
      refine step_append_lies _ (by rfl) (.tmp 28) (.tmp 31) 36 (by rfl) base 5 i0 (.int .u8 0) 1 1 Try.underlying36 hi hz0 hz1 hz2 rfl (by decide) (.slice (some ⟨g8, 0, none⟩) m1 cap8) (m1) (bl1.map bv) (by rfl) hrow11 ⟨r11, 0, none⟩ kf c11 (sf.map bv) (by rfl) (by rw [List.length_map, ← HKf.out, Nat.mul_one]) (fun j u hu => by rw [add_addr]; exact own_cell hown11 hu) (by intro u hu; obtain ⟨q, _, rfl⟩ := List.mem_map.1 hu; rfl) (by omega) (by unfold maxLen; omega) (by omega) (Nat.le_trans hbo hF11.bl.size) _ rfl ?_
      intro g12 cap12 w12 hown12 hg12 hat12 hlt12
      have hF12 := hF11.app hrow11 hg12
      refine hK.out _ _ ?hS (fun hHeld => ?_)
      case hS => exact ⟨hF12.ax.at_ rfl, hF12.ax.at_ rfl⟩
      clear hK K
      try simp only [Act.put, List.setIfInBounds_toArray, List.set_cons_zero, List.set_cons_succ]
      refine wpAnyH_ready (rs := [7]) (by kernel_rfl) (by simp) ?_
      refine AllReadyH.cons (o := _) (by rw [List.getElem?_toArray]; rfl) (fun K hK => ?_) AllReadyH.nil
      go_simp
      refine (HQt.out _).mono ?_
      rintro e w13 ⟨x13, rfl, hown13, hb13⟩
      obtain ⟨r13, c13, cur13, rfl, hrb13, _⟩ := own_form hown13 (by omega)
      have hF13 := hF12.call hb13
      have hrow13 := own_call (W := w12) hown12 hb13
      go_wp2_with fail
      refine hK.out _ _ ?hS (fun hHeld => ?_)
      case hS => exact ⟨hF13.ax.at_ rfl, hF13.ax.at_ rfl⟩
      clear hK K
      try simp only [Act.put, List.setIfInBounds_toArray, List.set_cons_zero, List.set_cons_succ]
      refine wpAnyH_ready (rs := [8]) (by kernel_rfl) (by simp) ?_
      refine AllReadyH.cons (o := _) (by rw [List.getElem?_toArray]; rfl) (fun K hK => ?_) AllReadyH.nil
      refine step_append_lies _ (by rfl) (.tmp 32) (.tmp 35) 36 (by rfl) base 5 i0 (.int .u8 0) 1 1 Try.underlying36 hi hz0 hz1 hz2 rfl (by decide) (.slice (some ⟨g12, 0, none⟩) (m1 + kf) cap12) (m1 + kf) (bl1.map bv ++ sf.map bv) (by rfl) hrow13 ⟨r13, 0, none⟩ kt c13 (st.map bv) (by rfl) (by rw [List.length_map, ← HKt.out, Nat.mul_one]) (fun j u hu => by rw [add_addr]; exact own_cell hown13 hu) (by intro u hu; obtain ⟨q, _, rfl⟩ := List.mem_map.1 hu; rfl) (by omega) (by unfold maxLen; omega) (by omega) (Nat.le_trans hbo hF13.bl.size) _ rfl ?_
      intro g14 cap14 w14 hown14 hg14 hat14 hlt14
      have hF14 := hF13.app hrow13 hg14
      refine hK.out _ _ ?hS (fun hHeld => ?_)
      case hS => exact ⟨hF14.ax.at_ rfl, hF14.ax.at_ rfl⟩
      clear hK K
      try simp only [Act.put, List.setIfInBounds_toArray, List.set_cons_zero, List.set_cons_succ]
      refine wpAnyH_take (i := 9) (oi := _) (v := ?_) (by rw [List.getElem?_toArray]; rfl) (by kernel_rfl) (by kernel_rfl) (by kernel_rfl) (by exact fun _ _ _ h => h) (Or.inl ⟨by rfl, ?_⟩) (by assumption) ?_
      rotate_left
      · (intro w9 hSw; (try dsimp only at hSw); go_simp; first | done | with_reducible rfl)
      try simp only [Act.put, List.setIfInBounds_toArray, List.set_cons_zero, List.set_cons_succ]
      refine wpAnyH_done (by kernel_rfl) ?_ _
      have e3 : w14.cell? ⟨wr.heap.size, 3, none⟩ = some (.int .i64 r) := hF14.ax.at_ rfl
      obtain ⟨m2, hm2⟩ : ∃ z, z = m1 + kf + kt := ⟨_, rfl⟩
      rw [← hm2] at hown14 ⊢
      have hm2b : 0 < m2 ∧ m2 ≤ 2000000200 := by omega
      rw [← List.map_append, ← List.map_append] at hown14
      obtain ⟨bl2, hbl2⟩ : ∃ l, l = bl1 ++ sf ++ st := ⟨_, rfl⟩
      rw [← hbl2] at hown14
      have HB2 := Lib.hid hbl2
      have HF14 := Lib.hid hF14
      clear hm2 hbl2 hF14 hF13 hF12 hF11 hown13 hown12 hown11 hrow13 hrow11 hown8 hg14 hg12 e1 e2
      have hqr : ∀ W', Calls Try.prog 38 #[.int .i64 r] W' fun e w' => ∃ x, e = .returned x ∧ w'.ownsRow W'.heap.size 5 1 x (vput (PV.un r)).length ((vput (PV.un r)).map bv) ∧ Below W'.heap.size W' w' := fun W' => rvint_put r W'
      have hlvr := vput_len (PV.un r)
      obtain ⟨sr, hsr⟩ : ∃ s, s = vput (PV.un r) := ⟨_, rfl⟩
      rw [← hsr] at hqr hlvr
      obtain ⟨kr, hkr⟩ : ∃ z, z = sr.length := ⟨_, rfl⟩
      rw [← hkr] at hqr hlvr
      have HQr := Lib.hid hqr
      have HSr := Lib.hid hsr
      have HKr := Lib.hid hkr
      clear hqr hsr hkr
      go_wp2_with (first | (go_at_call 38; refine (HQr.out _).mono ?_; rintro e w21 ⟨x21, rfl, hown21, hb21⟩; obtain ⟨r21, c21, cur21, rfl, hrb21, _⟩ := own_form hown21 (by omega); have hF21 := HF14.out.call hb21; have hrow21 := own_call (W := w14) hown14 hb21) | (at_builtin; refine wpList_append_lies _ rfl (.tmp 37) (.tmp 40) 36 rfl base 5 i0 (.int .u8 0) 1 1 Try.underlying36 hi hz0 hz1 hz2 rfl (by decide) (.slice (some ⟨g14, 0, none⟩) m2 cap14) m2 (bl2.map bv) rfl hrow21 ⟨r21, 0, none⟩ kr c21 (sr.map bv) rfl (by rw [List.length_map, ← HKr.out, Nat.mul_one]) (fun j u hu => by rw [add_addr]; exact own_cell hown21 hu) (by intro u hu; obtain ⟨q, _, rfl⟩ := List.mem_map.1 hu; rfl) (by omega) (by unfold maxLen; omega) (by omega) (Nat.le_trans hbo hF21.bl.size) _ rfl ?_; intro g22 cap22 w22 hown22 hg22 hat22 hlt22; have hF22 := hF21.app hrow21 hg22))
      have hl6 : bl2 ++ sr = pkTo L (k + 1) := by rw [HM.out.2.2, HB2.out, HB1.out, HM.out.2.1, HSs.out, HSf.out, HSt.out, HSr.out]; unfold pk1; simp
      have HEND : Hid (w22.ownsRow base 5 1 (.slice (some ⟨g22, 0, none⟩) (m2 + kr) cap22) (pkTo L (k + 1)).length ((pkTo L (k + 1)).map bv) ∧ Below base w w22) := by
        refine ⟨?_, HBR.out.trans hF22.bl⟩
        have h9 := hown22
        rw [← List.map_append, hl6] at h9
        have h10 := h9.1
        rw [List.length_map, Nat.mul_one] at h10
        rw [h10]
        exact h9
      clear hl6 hown22 hg22 hF22 hF21 hrow21 hown21 hown14
      go_wp2_with fail
      go_roundw
      case rel => exact ⟨k + 1, by omega, by go_num, HEND.out.1, HEND.out.2⟩
      case measure => simp [intOf]; omega
    · obtain rfl : k = N := by omega
      have HE : Hid (wr.ownsRow base 5 1 u3 (packL L).length ((packL L).map bv)) := by
        have h9 := hrow
        rw [← HNL.out, pkTo_end] at h9
        exact h9
      clear hrow
      go_wp2_with fail
      go_ret
      exact ⟨_, rfl, HE.out, hbr⟩
end Go.Proofs.Ytghklmhmhekjgaa
