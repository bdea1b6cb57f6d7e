/- What the reader's plan answers. Conditions: at most 10^9 bytes, each below 256. -/
import Derived.Test.YtghklmhmhekjgaaReader
import Derived.Test.YtghklmhmhekjgaaPk
namespace Go.Proofs.Ytghklmhmhekjgaa
open Go.RowKit PC

/-- The number of the name's bytes can't be. -/
def rdBad (l : List Nat) : Prop := VgV l < 0 ∨ ((gL false l).2.length : Int) < VgV l
instance (l : List Nat) : Decidable (rdBad l) := by unfold rdBad; infer_instance
def rdN (l : List Nat) : ByteArray := strN ((gL false l).2.take (VgV l).toNat)
/-- Behind the name. -/
def rdL2 (l : List Nat) : List Nat := (gL false l).2.drop (VgV l).toNat
def rdS3 (l : List Nat) : Bool × List Nat := gL (gL false l).1 (rdL2 l)
def rdS4 (l : List Nat) : Bool × List Nat := gL (rdS3 l).1 (rdS3 l).2
def rdS5 (l : List Nat) : Bool × List Nat := gL (rdS4 l).1 (rdS4 l).2
/-- The plan that is read, and what stands behind it. -/
def rdP (l : List Nat) : Pl := if rdBad l then ⟨⟨#[]⟩, 0, 0, 0⟩ else ⟨rdN l, SgV (rdL2 l), SgV (rdS3 l).2, VgV (rdS4 l).2⟩
def rdS (l : List Nat) : Bool × List Nat := if rdBad l then (true, (gL false l).2) else rdS5 l
/-- What a reading of a plan does. -/
def RdPost (w : World) (R B : Nat) (l : List Nat) (e : Ending) (w' : World) : Prop :=
  e = .returned (plv (rdP l)) ∧ RS w' R B (rdS l).1 (rdS l).2 ∧ Kp (fun x => x = R) w w'
theorem RdPost.bad {w w' : World} {R B : Nat} {l : List Nat} (hb : rdBad l) (h : RS w' R B true (gL false l).2) (hk : Kp (fun x => x = R) w w') :
    RdPost w R B l (.returned (.agg #[.string ⟨#[]⟩, .int .i64 0, .int .i64 0, .int .i64 0])) w' := by
  unfold RdPost rdP rdS; rw [if_pos hb, if_pos hb]; exact ⟨rfl, h, hk⟩
theorem RdPost.good {w w' : World} {R B : Nat} {l : List Nat} {s : ByteArray} {f t r : Int} (hb : ¬ rdBad l) (h1 : s = rdN l) (h2 : f = SgV (rdL2 l)) (h3 : t = SgV (rdS3 l).2) (h4 : r = VgV (rdS4 l).2)
    (h : RS w' R B (rdS5 l).1 (rdS5 l).2) (hk : Kp (fun x => x = R) w w') : RdPost w R B l (.returned (.agg #[.string s, .int .i64 f, .int .i64 t, .int .i64 r])) w' := by
  subst h1; subst h2; subst h3; subst h4
  unfold RdPost rdP rdS; rw [if_neg hb, if_neg hb]; exact ⟨rfl, h, hk⟩
theorem RS.set0 {w : World} {R B : Nat} {bad : Bool} {A A' : Option Addr} {n c n' c' : Nat} {l' : List Nat} (ha : Arr w R 64 #[.slice A n c, .bool bad]) (hr : Rd w B A' n' (l'.map bv)) (hB : B ≤ R) (h1 : n' ≤ c') (h2 : c' ≤ maxLen) (h3 : n' ≤ 1000000000)
    (h4 : ∀ x ∈ l', x < 256) (h5 : Adr A' c') : RS (w.setCell ⟨R, 0, none⟩ (.slice A' n' c')) R B bad l' :=
  ⟨A', n', c', ha.set 0 _, hr.keep fun x hx => Below.heap_setCell w _ _ x (by simp; omega), h1, h2, h3, h4, h5⟩

theorem Try.size27 : (Try.prog.info? 27).map (·.size) = some 4 := by kernel_rfl
/-- The result's cells are written and read. -/
theorem plan_fin {w w3 : World} {R B : Nat} {l l' : List Nat} {bd : Bool} {tmps cs : Array Value} {v0 v1 v2 v3 : Value} (hk : Kp (fun x => x = R) w w3) (hP : Arr w3 w.heap.size 27 cs) (hc : cs.size = 4) (hrs : RS w3 R B bd l') (hB : B ≤ R) (hR : R < w.heap.size)
    (hpost : ∀ w', RS w' R B bd l' → Kp (fun x => x = R) w w' → RdPost w R B l (.returned (.agg #[v0, v1, v2, v3])) w') (ht : tmps.getD 2 undef = .pointer (some ⟨w.heap.size, 0, none⟩)) :
    bodyPost Try.prog Try.f30 (RdPost w R B l) Exit.ret ⟨tmps, []⟩ ((((w3.setCell ⟨w.heap.size, 0, none⟩ v0).setCell ⟨w.heap.size, 1, none⟩ v1).setCell ⟨w.heap.size, 2, none⟩ v2).setCell ⟨w.heap.size, 3, none⟩ v3) := by
  have hA := (((hP.set 0 v0).set 1 v1).set 2 v2).set 3 v3
  have e : (((cs.setIfInBounds 0 v0).setIfInBounds 1 v1).setIfInBounds 2 v2).setIfInBounds 3 v3 = #[v0, v1, v2, v3] := by
    obtain ⟨cl⟩ := cs
    match cl, hc with
    | [_, _, _, _], _ => rfl
  rw [e] at hA
  refine bodyPost_ret (results_cell_row (P := Try.prog) rfl _ _ w.heap.size 27 _ (0, 0) _ ht hA Try.underlying27 rfl Try.size27) rfl ?_
  have hk3 := ((((Kp.refl (fun x => x = w.heap.size) w3).setCell (p := ⟨w.heap.size, 0, none⟩) (.inl rfl) v0).setCell (p := ⟨w.heap.size, 1, none⟩) (.inl rfl) v1).setCell (p := ⟨w.heap.size, 2, none⟩) (.inl rfl) v2).setCell (p := ⟨w.heap.size, 3, none⟩) (.inl rfl) v3
  refine hpost _ (hrs.kp hk3 (by have := hk.size; omega) (by omega) (fun x hx e => by omega)) (hk.trans hk3 (fun x hx e => by omega))

set_option maxRecDepth 100000 in
set_option maxHeartbeats 4000000 in
theorem plan30 (R B : Nat) (l : List Nat) (w : World) (h : RS w R B false l) (hB : B ≤ R) :
    Calls Try.prog 30 #[.pointer (some ⟨R, 0, none⟩)] w (RdPost w R B l) := by
  have hR : R < w.heap.size := by obtain ⟨_, _, _, ha, _⟩ := h; exact ha.lt
  have hg := get28 R B false l (w.alloc (.cells #[.string ⟨#[]⟩, .int .i64 0, .int .i64 0, .int .i64 0] 27)) (h.kp ((Kp.refl (fun _ => False) w).alloc _) (by omega) (fun h => h) (fun _ _ h => h)) hB
  go_enter Try.func30, Try.ntmps30
  go_wp2_with fail
  refine hg.mono ?_
  rintro e w2 ⟨rfl, hrs, hk⟩
  have hP2 : Arr w2 w.heap.size 27 #[.string ⟨#[]⟩, .int .i64 0, .int .i64 0, .int .i64 0] := (Arr.new w 27 _).kp hk (by omega)
  obtain ⟨A, n, c, ha, hr, hnc, hcm, hn9, hlt, hAc⟩ := hrs
  have hln := hr.blen
  have c0 : w2.cell? ⟨R, 0, none⟩ = some (.slice A n c) := ha.at_ rfl
  have c1 : w2.cell? ⟨R, 1, none⟩ = some (.bool (gL false l).1) := ha.at_ rfl
  have f0 := ha.frozen 0
  have f1 := ha.frozen 1
  have g0 := hP2.frozen 0
  have g1 := hP2.frozen 1
  have g2 := hP2.frozen 2
  have g3 := hP2.frozen 3
  have hRP : w.heap.size ≠ R := by omega
  have hk0 : Kp (fun x => x = R) w w2 := ((Kp.refl (fun x => x = R) w).alloc _).trans hk (fun _ _ h => h)
  obtain ⟨V, hV⟩ : ∃ V, V = VgV l := ⟨_, rfl⟩
  rw [← hV]
  by_cases hbad : rdBad l
  · have HE := Lib.hid (fun (w' : World) (h : RS w' R B true (gL false l).2) (hk : Kp (fun x => x = R) w w') => RdPost.bad hbad h hk)
    have HR := Lib.hid (show RS (w2.setCell ⟨R, 1, none⟩ (.bool true)) R B true (gL false l).2 from ⟨A, n, c, ha.set 1 _, hr.keep fun x hx => Below.heap_setCell w2 _ _ x (by simp; omega), hnc, hcm, hn9, hlt, hAc⟩)
    have HK := Lib.hid (hk0.setCell (p := ⟨R, 1, none⟩) (.inl rfl) (.bool true))
    have HP := Lib.hid (hP2.far (p := ⟨R, 1, none⟩) (by simp; omega) (.bool true))
    unfold rdBad at hbad
    rw [hln, ← hV] at hbad
    have hp0 := hP2.at_ (i := 0) (v := .string ⟨#[]⟩) rfl
    have hp1 := hP2.at_ (i := 1) (v := .int .i64 0) rfl
    have hp2 := hP2.at_ (i := 2) (v := .int .i64 0) rfl
    have hp3 := hP2.at_ (i := 3) (v := .int .i64 0) rfl
    rcases hbad with z | z
    · have z1 : decide (V < 0) = true := decide_eq_true z
      clear hg hV ha hr
      go_wp2_with fail
      exact plan_fin HK.out HP.out rfl HR.out hB hR HE.out rfl
    · have z1 : decide (V < 0) = false := decide_eq_false (by omega)
      have z2 : decide ((n : Int) < V) = true := decide_eq_true z
      clear hg hV ha hr
      go_wp2_with fail
      exact plan_fin HK.out HP.out rfl HR.out hB hR HE.out rfl
  · have hb := hbad
    unfold rdBad at hb
    rw [hln, ← hV] at hb
    obtain ⟨k, rfl⟩ : ∃ k : Nat, V = k := ⟨V.toNat, by omega⟩
    have hkn : k ≤ n := by omega
    have z1 : decide ((k : Int) < 0) = false := decide_eq_false (by omega)
    have z2 : decide ((n : Int) < (k : Int)) = false := decide_eq_false (by omega)
    have z3 : (0 : Int) ≤ (k : Int) := by omega
    have z6 : decide (n < k) = false := decide_eq_false (by omega)
    have hRl : R < w2.heap.size := ha.lt
    have hPl : w.heap.size < w2.heap.size := hP2.lt
    have z4 : (k : Int) ≤ (n : Int) := by omega
    have z5 : (n : Int) ≤ (c : Int) := by omega
    have hcv : (convert 36 9 (.slice A k c)).run Try.prog w2 = .ok (.string (rdN l)) w2 := by
      have := conv_rd (c := c) (hr.takeB hkn)
      rw [this, rdN, ← hV]; rfl
    have hQ2 : ∀ s, Arr (w2.alloc (.cells #[.string s, .int .i64 0, .int .i64 0, .int .i64 0] 27)) w2.heap.size 27 #[.string s, .int .i64 0, .int .i64 0, .int .i64 0] := fun s => Arr.new w2 27 _
    have HV := Lib.hid hV
    have HR := Lib.hid (And.intro hr (And.intro hlt hAc))
    have HP := Lib.hid (And.intro ha hP2)
    have HQ := Lib.hid hQ2
    clear hg hV hr ha hP2 hlt hAc hQ2 hb hk
    have HG := Lib.hid (fun (w' : World) (s : ByteArray) (f t r : Int) (h1 : s = rdN l) (h2 : f = SgV (rdL2 l)) (h3 : t = SgV (rdS3 l).2) (h4 : r = VgV (rdS4 l).2)
      (h : RS w' R B (rdS5 l).1 (rdS5 l).2) (hk : Kp (fun x => x = R) w w') => RdPost.good hbad h1 h2 h3 h4 h hk)
    have HO : ∀ (A' : Option Addr) (n' c' : Nat), Rd w2 B A' n' ((rdL2 l).map bv) → n' ≤ c' → c' ≤ c → Adr A' c' →
        RS ((w2.setCell ⟨R, 0, none⟩ (.slice A' n' c')).alloc (.cells #[.string (rdN l), .int .i64 0, .int .i64 0, .int .i64 0] 27)) R B (gL false l).1 (rdL2 l) ∧
        Arr ((w2.setCell ⟨R, 0, none⟩ (.slice A' n' c')).alloc (.cells #[.string (rdN l), .int .i64 0, .int .i64 0, .int .i64 0] 27)) w.heap.size 27 #[.string ⟨#[]⟩, .int .i64 0, .int .i64 0, .int .i64 0] ∧
        Arr ((w2.setCell ⟨R, 0, none⟩ (.slice A' n' c')).alloc (.cells #[.string (rdN l), .int .i64 0, .int .i64 0, .int .i64 0] 27)) w2.heap.size 27 #[.string (rdN l), .int .i64 0, .int .i64 0, .int .i64 0] ∧
        Kp (fun x => x = R) w ((w2.setCell ⟨R, 0, none⟩ (.slice A' n' c')).alloc (.cells #[.string (rdN l), .int .i64 0, .int .i64 0, .int .i64 0] 27)) := by
      intro A' n' c' h1 h2 h3 h4
      have hrs := RS.set0 (bad := (gL false l).1) HP.out.1 h1 hB h2 (by omega) (by have := h1.1; rw [List.length_map, rdL2, List.length_drop, hln] at this; omega) (fun x hx => HR.out.2.1 x (List.mem_of_mem_drop hx)) h4
      refine ⟨hrs.kp ((Kp.refl (fun _ => False) _).alloc _) ?_ (fun h => h) (fun _ _ h => h), (HP.out.2.far (by simp; omega) _).alloc _, ?_, (hk0.setCell (p := ⟨R, 0, none⟩) (.inl rfl) _).alloc _⟩
      · rw [World.size_setCell]; omega
      · have := Arr.new (w2.setCell ⟨R, 0, none⟩ (.slice A' n' c')) 27 #[.string (rdN l), .int .i64 0, .int .i64 0, .int .i64 0]
        rwa [World.size_setCell] at this
    have HO := Lib.hid HO
    clear hbad
    rcases HR.out.2.2 with ⟨rfl, rfl⟩ | ⟨b, off, rfl⟩
    · skip
      obtain rfl : n = 0 := by omega
      obtain rfl : k = 0 := by omega
      have HX := Lib.hid (HO.out none 0 0 (Rd.any0 none rfl (by rw [List.length_map, rdL2, List.length_drop, hln]; omega)) (by omega) (by omega) .nil_)
      go_wp2_with fail
      refine (sget28 R B _ _ _ HX.out.1 hB).mono ?_
      rintro e w4 ⟨rfl, hrs4, hk4⟩
      have HY := Lib.hid (And.intro (HX.out.2.1.kp hk4 hRP) (And.intro (HX.out.2.2.1.kp hk4 (Nat.ne_of_gt hRl)) (HX.out.2.2.2.trans hk4 (fun _ _ h => h))))
      clear hk4
      have HS4 := Lib.hid hrs4
      clear hrs4
      go_wp2_with fail
      have hq2 := sget28 R B _ _ _ HS4.out hB
      rw [show gL (gL false l).1 (rdL2 l) = rdS3 l from rfl] at hq2
      refine hq2.mono ?_
      clear hq2
      rintro e w5 ⟨rfl, hrs5, hk5⟩
      rw [show gL (rdS3 l).1 (rdS3 l).2 = rdS4 l from rfl] at hrs5
      have hP5 := HY.out.1.kp hk5 hRP
      have hQ5 := HY.out.2.1.kp hk5 (Nat.ne_of_gt hRl)
      have hK5 := HY.out.2.2.trans hk5 (fun _ _ h => h)
      have q1 := hQ5.frozen 1
      have q2 := hQ5.frozen 2
      have q3 := hQ5.frozen 3
      have q0 := hQ5.frozen 0
      have k1 := hQ5.at_ (i := 1) (v := .int .i64 0) rfl
      have k2 := hQ5.at_ (i := 2) (v := .int .i64 0) rfl
      have hQ6 := (hQ5.set 1 (.int .i64 (SgV (rdL2 l)))).set 2 (.int .i64 (SgV (rdS3 l).2))
      have hP6 := (hP5.far (p := ⟨w2.heap.size, 1, none⟩) (by simp; omega) (.int .i64 (SgV (rdL2 l)))).far (p := ⟨w2.heap.size, 2, none⟩) (by simp; omega) (.int .i64 (SgV (rdS3 l).2))
      have hkk := ((Kp.refl (fun x => x = w2.heap.size) w5).setCell (p := ⟨w2.heap.size, 1, none⟩) (.inl rfl) (.int .i64 (SgV (rdL2 l)))).setCell (p := ⟨w2.heap.size, 2, none⟩) (.inl rfl) (.int .i64 (SgV (rdS3 l).2))
      have hrs6 := hrs5.kp hkk (by have := hK5.size; omega) (by omega) (fun x hx e => by omega)
      have hK6 := hK5.trans hkk (fun x hx e => by omega)
      have hq3 := get28 R B _ _ _ hrs6 hB
      have HZ := Lib.hid (And.intro hP6 (And.intro hQ6 hK6))
      clear hP6 hQ6 hK6 hkk hP5 hQ5 hK5 hrs5 hrs6 hk5
      go_wp2_with fail
      refine hq3.mono ?_
      clear hq3
      rintro e w6 ⟨rfl, hrs6, hk6⟩
      rw [show gL (rdS4 l).1 (rdS4 l).2 = rdS5 l from rfl] at hrs6
      have hP7 := HZ.out.1.kp hk6 hRP
      have hQ7 := HZ.out.2.1.kp hk6 (Nat.ne_of_gt hRl)
      have hK7 := HZ.out.2.2.trans hk6 (fun _ _ h => h)
      have m0 := hQ7.at_ (i := 0) (v := .string (rdN l)) rfl
      have m1 := hQ7.at_ (i := 1) (v := .int .i64 (SgV (rdL2 l))) rfl
      have m2 := hQ7.at_ (i := 2) (v := .int .i64 (SgV (rdS3 l).2)) rfl
      have m3 := hQ7.at_ (i := 3) (v := .int .i64 0) rfl
      have n3 := hQ7.frozen 3
      have p0 := hP7.frozen 0
      have p1 := hP7.frozen 1
      have p2 := hP7.frozen 2
      have p3 := hP7.frozen 3
      have r0 := hP7.at_ (i := 0) (v := .string ⟨#[]⟩) rfl
      have r1 := hP7.at_ (i := 1) (v := .int .i64 0) rfl
      have r2 := hP7.at_ (i := 2) (v := .int .i64 0) rfl
      have r3 := hP7.at_ (i := 3) (v := .int .i64 0) rfl
      have hkk := (Kp.refl (fun x => x = w2.heap.size) w6).setCell (p := ⟨w2.heap.size, 3, none⟩) (.inl rfl) (.int .i64 (VgV (rdS4 l).2))
      have hrs7 := hrs6.kp hkk (by have := hK7.size; omega) (by omega) (fun x hx e => by omega)
      have hP8 := hP7.far (p := ⟨w2.heap.size, 3, none⟩) (by simp; omega) (.int .i64 (VgV (rdS4 l).2))
      have HZZ := Lib.hid (And.intro hP8 (And.intro (hK7.trans hkk (fun x hx e => by omega)) hrs7))
      clear hP7 hQ7 hK7 hkk hrs6 hrs7 hP8 hk6
      go_wp2_with fail
      exact plan_fin HZZ.out.2.1 HZZ.out.1 rfl HZZ.out.2.2 hB hR (fun w' h hk => HG.out w' _ _ _ _ rfl rfl rfl rfl h hk) rfl
    · by_cases hck : c = k
      · subst hck
        have HX := Lib.hid (HO.out (some ⟨b, off, none⟩) 0 0 (Rd.any0 _ rfl (by rw [List.length_map, rdL2, List.length_drop, hln, ← HV.out]; omega)) (by omega) (by omega) (.mk ..))
        go_wp2_with fail
        refine (sget28 R B _ _ _ HX.out.1 hB).mono ?_
        rintro e w4 ⟨rfl, hrs4, hk4⟩
        have HY := Lib.hid (And.intro (HX.out.2.1.kp hk4 hRP) (And.intro (HX.out.2.2.1.kp hk4 (Nat.ne_of_gt hRl)) (HX.out.2.2.2.trans hk4 (fun _ _ h => h))))
        clear hk4
        have HS4 := Lib.hid hrs4
        clear hrs4
        go_wp2_with fail
        have hq2 := sget28 R B _ _ _ HS4.out hB
        rw [show gL (gL false l).1 (rdL2 l) = rdS3 l from rfl] at hq2
        refine hq2.mono ?_
        clear hq2
        rintro e w5 ⟨rfl, hrs5, hk5⟩
        rw [show gL (rdS3 l).1 (rdS3 l).2 = rdS4 l from rfl] at hrs5
        have hP5 := HY.out.1.kp hk5 hRP
        have hQ5 := HY.out.2.1.kp hk5 (Nat.ne_of_gt hRl)
        have hK5 := HY.out.2.2.trans hk5 (fun _ _ h => h)
        have q1 := hQ5.frozen 1
        have q2 := hQ5.frozen 2
        have q3 := hQ5.frozen 3
        have q0 := hQ5.frozen 0
        have k1 := hQ5.at_ (i := 1) (v := .int .i64 0) rfl
        have k2 := hQ5.at_ (i := 2) (v := .int .i64 0) rfl
        have hQ6 := (hQ5.set 1 (.int .i64 (SgV (rdL2 l)))).set 2 (.int .i64 (SgV (rdS3 l).2))
        have hP6 := (hP5.far (p := ⟨w2.heap.size, 1, none⟩) (by simp; omega) (.int .i64 (SgV (rdL2 l)))).far (p := ⟨w2.heap.size, 2, none⟩) (by simp; omega) (.int .i64 (SgV (rdS3 l).2))
        have hkk := ((Kp.refl (fun x => x = w2.heap.size) w5).setCell (p := ⟨w2.heap.size, 1, none⟩) (.inl rfl) (.int .i64 (SgV (rdL2 l)))).setCell (p := ⟨w2.heap.size, 2, none⟩) (.inl rfl) (.int .i64 (SgV (rdS3 l).2))
        have hrs6 := hrs5.kp hkk (by have := hK5.size; omega) (by omega) (fun x hx e => by omega)
        have hK6 := hK5.trans hkk (fun x hx e => by omega)
        have hq3 := get28 R B _ _ _ hrs6 hB
        have HZ := Lib.hid (And.intro hP6 (And.intro hQ6 hK6))
        clear hP6 hQ6 hK6 hkk hP5 hQ5 hK5 hrs5 hrs6 hk5
        go_wp2_with fail
        refine hq3.mono ?_
        clear hq3
        rintro e w6 ⟨rfl, hrs6, hk6⟩
        rw [show gL (rdS4 l).1 (rdS4 l).2 = rdS5 l from rfl] at hrs6
        have hP7 := HZ.out.1.kp hk6 hRP
        have hQ7 := HZ.out.2.1.kp hk6 (Nat.ne_of_gt hRl)
        have hK7 := HZ.out.2.2.trans hk6 (fun _ _ h => h)
        have m0 := hQ7.at_ (i := 0) (v := .string (rdN l)) rfl
        have m1 := hQ7.at_ (i := 1) (v := .int .i64 (SgV (rdL2 l))) rfl
        have m2 := hQ7.at_ (i := 2) (v := .int .i64 (SgV (rdS3 l).2)) rfl
        have m3 := hQ7.at_ (i := 3) (v := .int .i64 0) rfl
        have n3 := hQ7.frozen 3
        have p0 := hP7.frozen 0
        have p1 := hP7.frozen 1
        have p2 := hP7.frozen 2
        have p3 := hP7.frozen 3
        have r0 := hP7.at_ (i := 0) (v := .string ⟨#[]⟩) rfl
        have r1 := hP7.at_ (i := 1) (v := .int .i64 0) rfl
        have r2 := hP7.at_ (i := 2) (v := .int .i64 0) rfl
        have r3 := hP7.at_ (i := 3) (v := .int .i64 0) rfl
        have hkk := (Kp.refl (fun x => x = w2.heap.size) w6).setCell (p := ⟨w2.heap.size, 3, none⟩) (.inl rfl) (.int .i64 (VgV (rdS4 l).2))
        have hrs7 := hrs6.kp hkk (by have := hK7.size; omega) (by omega) (fun x hx e => by omega)
        have hP8 := hP7.far (p := ⟨w2.heap.size, 3, none⟩) (by simp; omega) (.int .i64 (VgV (rdS4 l).2))
        have HZZ := Lib.hid (And.intro hP8 (And.intro (hK7.trans hkk (fun x hx e => by omega)) hrs7))
        clear hP7 hQ7 hK7 hkk hrs6 hrs7 hP8 hk6
        go_wp2_with fail
        exact plan_fin HZZ.out.2.1 HZZ.out.1 rfl HZZ.out.2.2 hB hR (fun w' h hk => HG.out w' _ _ _ _ rfl rfl rfl rfl h hk) rfl
      · have HX := Lib.hid (HO.out (some ⟨b, off + k, none⟩) (n - k) (c - k) (by have := HR.out.1.dropB hkn; rw [rdL2, ← HV.out]; exact this) (by omega) (by omega) (.mk ..))
        go_wp2_with fail
        refine (sget28 R B _ _ _ HX.out.1 hB).mono ?_
        rintro e w4 ⟨rfl, hrs4, hk4⟩
        have HY := Lib.hid (And.intro (HX.out.2.1.kp hk4 hRP) (And.intro (HX.out.2.2.1.kp hk4 (Nat.ne_of_gt hRl)) (HX.out.2.2.2.trans hk4 (fun _ _ h => h))))
        clear hk4
        have HS4 := Lib.hid hrs4
        clear hrs4
        go_wp2_with fail
        have hq2 := sget28 R B _ _ _ HS4.out hB
        rw [show gL (gL false l).1 (rdL2 l) = rdS3 l from rfl] at hq2
        refine hq2.mono ?_
        clear hq2
        rintro e w5 ⟨rfl, hrs5, hk5⟩
        rw [show gL (rdS3 l).1 (rdS3 l).2 = rdS4 l from rfl] at hrs5
        have hP5 := HY.out.1.kp hk5 hRP
        have hQ5 := HY.out.2.1.kp hk5 (Nat.ne_of_gt hRl)
        have hK5 := HY.out.2.2.trans hk5 (fun _ _ h => h)
        have q1 := hQ5.frozen 1
        have q2 := hQ5.frozen 2
        have q3 := hQ5.frozen 3
        have q0 := hQ5.frozen 0
        have k1 := hQ5.at_ (i := 1) (v := .int .i64 0) rfl
        have k2 := hQ5.at_ (i := 2) (v := .int .i64 0) rfl
        have hQ6 := (hQ5.set 1 (.int .i64 (SgV (rdL2 l)))).set 2 (.int .i64 (SgV (rdS3 l).2))
        have hP6 := (hP5.far (p := ⟨w2.heap.size, 1, none⟩) (by simp; omega) (.int .i64 (SgV (rdL2 l)))).far (p := ⟨w2.heap.size, 2, none⟩) (by simp; omega) (.int .i64 (SgV (rdS3 l).2))
        have hkk := ((Kp.refl (fun x => x = w2.heap.size) w5).setCell (p := ⟨w2.heap.size, 1, none⟩) (.inl rfl) (.int .i64 (SgV (rdL2 l)))).setCell (p := ⟨w2.heap.size, 2, none⟩) (.inl rfl) (.int .i64 (SgV (rdS3 l).2))
        have hrs6 := hrs5.kp hkk (by have := hK5.size; omega) (by omega) (fun x hx e => by omega)
        have hK6 := hK5.trans hkk (fun x hx e => by omega)
        have hq3 := get28 R B _ _ _ hrs6 hB
        have HZ := Lib.hid (And.intro hP6 (And.intro hQ6 hK6))
        clear hP6 hQ6 hK6 hkk hP5 hQ5 hK5 hrs5 hrs6 hk5
        go_wp2_with fail
        refine hq3.mono ?_
        clear hq3
        rintro e w6 ⟨rfl, hrs6, hk6⟩
        rw [show gL (rdS4 l).1 (rdS4 l).2 = rdS5 l from rfl] at hrs6
        have hP7 := HZ.out.1.kp hk6 hRP
        have hQ7 := HZ.out.2.1.kp hk6 (Nat.ne_of_gt hRl)
        have hK7 := HZ.out.2.2.trans hk6 (fun _ _ h => h)
        have m0 := hQ7.at_ (i := 0) (v := .string (rdN l)) rfl
        have m1 := hQ7.at_ (i := 1) (v := .int .i64 (SgV (rdL2 l))) rfl
        have m2 := hQ7.at_ (i := 2) (v := .int .i64 (SgV (rdS3 l).2)) rfl
        have m3 := hQ7.at_ (i := 3) (v := .int .i64 0) rfl
        have n3 := hQ7.frozen 3
        have p0 := hP7.frozen 0
        have p1 := hP7.frozen 1
        have p2 := hP7.frozen 2
        have p3 := hP7.frozen 3
        have r0 := hP7.at_ (i := 0) (v := .string ⟨#[]⟩) rfl
        have r1 := hP7.at_ (i := 1) (v := .int .i64 0) rfl
        have r2 := hP7.at_ (i := 2) (v := .int .i64 0) rfl
        have r3 := hP7.at_ (i := 3) (v := .int .i64 0) rfl
        have hkk := (Kp.refl (fun x => x = w2.heap.size) w6).setCell (p := ⟨w2.heap.size, 3, none⟩) (.inl rfl) (.int .i64 (VgV (rdS4 l).2))
        have hrs7 := hrs6.kp hkk (by have := hK7.size; omega) (by omega) (fun x hx e => by omega)
        have hP8 := hP7.far (p := ⟨w2.heap.size, 3, none⟩) (by simp; omega) (.int .i64 (VgV (rdS4 l).2))
        have HZZ := Lib.hid (And.intro hP8 (And.intro (hK7.trans hkk (fun x hx e => by omega)) hrs7))
        clear hP7 hQ7 hK7 hkk hrs6 hrs7 hP8 hk6
        go_wp2_with fail
        exact plan_fin HZZ.out.2.1 HZZ.out.1 rfl HZZ.out.2.2 hB hR (fun w' h hk => HG.out w' _ _ _ _ rfl rfl rfl rfl h hk) rfl
end Go.Proofs.Ytghklmhmhekjgaa
