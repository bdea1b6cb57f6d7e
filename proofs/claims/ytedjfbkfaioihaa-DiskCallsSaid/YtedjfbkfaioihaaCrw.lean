/- Crash of a disk: what it leaves. Conditions: at most 10^6 names and acts; files of at most 10^9 bytes. -/
import Derived.Test.YtedjfbkfaioihaaCra
namespace Go.Proofs.Ytedjfbkfaioihaa
open Go.RowKit Go.Shelf Go.Maps Go.Sort

/-- What a crash leaves. -/
def CrashPost (w : World) (φ : Nat → Prop) (D : Nat) (st : Ds) (keep : List Int) (e : Ending) (w' : World) : Prop := e = .returned (.tuple #[]) ∧ DK w' (wid φ w w') D (crash st keep) ∧ Kp φ w w'

set_option maxRecDepth 100000 in
set_option maxHeartbeats 8000000 in
theorem crash23 (D : Nat) (A : Option Addr) (n c : Nat) (keep : List Int) (χ : Nat → Prop) (st : Ds) (φ : Nat → Prop) (w : World) (h : DK w φ D st) (hkp : Ik w χ A n keep) (hnc : n ≤ c) (hcm : c ≤ maxLen) (hχ : ∀ x, χ x → ¬ φ x ∧ x < w.heap.size)
    (hL : st.sure.length + st.acts.length ≤ 1000000) (hb : ∀ x ∈ st.fs, x.b.length ≤ 1000000000) :
    Calls Try.prog 23 #[.pointer (some ⟨D, 0, none⟩), .slice A n c] w (CrashPost w φ D st keep) := by
  have hmf := Try.make
  obtain ⟨hφ, bn, bs, vp, Q, hk⟩ := h
  obtain ⟨cs, hrow, hvp, hcs⟩ := hk.pend
  have hcsl : cs.length = st.acts.length := by have := hrow.1; omega
  obtain ⟨Ap, cp, rfl, _⟩ := Rd.of_own hrow
  obtain ⟨W0, hW0⟩ : ∃ W0, W0 = w.alloc (.cells #[.slice A n c] 85) := ⟨_, rfl⟩
  have hb0 : Below w.heap.size w W0 := by rw [hW0]; exact (Below.refl _ w).alloc (Nat.le_refl _) _
  have hk0 := hk.below hb0 (Nat.le_refl _)
  have hrow0 : W0.ownsRow 0 72 1 (.slice Ap st.acts.length cp) st.acts.length cs := row_heap hrow fun x _ hl => hb0.block x hl
  have hcs0 : ∀ i v a, cs[i]? = some v → st.acts[i]? = some a → AAt W0 φ (Fq Q) v a := fun i v a hv ha => (hcs i v a hv ha).keep fun x _ hl => hb0.block x hl
  have hpk0 : Pk W0 χ w.heap.size keep := ⟨A, n, c, by rw [hW0]; exact Arr.new w 85 _, by rw [hW0]; exact hkp.kp ((Kp.refl (fun _ => False) w).alloc _) (fun _ _ h => h), hnc, hcm⟩
  have hPφ : ¬ φ w.heap.size := fun h => by have := hφ _ h; omega
  have hbsl := hk.sure.lt
  have hD := hk.d.lt
  have hD64 := hk.d.ty
  have hbsP : bs ≠ w.heap.size := by omega
  have hbsD : D ≠ bs := fun e => by have h1 := hk.sure.ty.p.2.2; rw [← e, hD64] at h1; cases h1
  have hRS : R1 W0 φ χ w.heap.size bs (Fq Q) st keep 0 0 W0 := ⟨Kp.refl _ _, hk0.sure, hpk0⟩
  have hDc : Hid (∀ wr, Kp (fun x => x = bs ∨ x = w.heap.size) W0 wr → Arr wr D 64 (dcs bn bs (.slice Ap st.acts.length cp) st)) := Lib.hid fun wr hk => hk0.d.kp hk (by rintro (e | e) <;> omega)
  have c3 : (w.alloc (.cells #[.slice A n c] 85)).cell? ⟨D, 3, none⟩ = some (.slice Ap st.acts.length cp) := by rw [← hW0]; exact hk0.d.at_ rfl
  have HRS := Lib.hid hRS
  have HCS := Lib.hid (And.intro hcs0 (And.intro hrow0 hk0.inv.acts))
  have HX := Lib.hid (And.intro hk (And.intro hk0 (And.intro hφ (And.intro hχ (And.intro hb hb0)))))
  have HP := Lib.hid (And.intro hPφ (And.intro hbsP hbsD))
  obtain ⟨ln, hln⟩ : ∃ ln, ln = st.acts.length := ⟨_, rfl⟩
  have HLN := Lib.hid (And.intro hln hL)
  have hln6 : ln ≤ 1000000 := by omega
  rw [← hln] at c3
  clear hk hk0 hφ hχ hb hb0 hPφ hbsP hRS hcs0 hrow0 hrow hcs hvp hpk0 hkp hnc hcm hcsl hL hln hbsl hD hD64 hbsD
  go_enter Try.func23, Try.ntmps23
  go_wp2_with fail
  rw [← hW0]
  go_loopw [19] (fun i wr => ∃ j : Nat, j ≤ ln ∧ i = .int .i64 j ∧ Hid (R1 W0 φ χ w.heap.size bs (Fq Q) st keep j j wr)) (fun i _ => ln - (intOf i).toNat)
  case atStart => exact ⟨0, by omega, rfl, HRS⟩
  case round =>
    obtain ⟨j, hj, rfl, HR⟩ := hrel
    by_cases hjl : j < ln
    · obtain ⟨a, ha⟩ : ∃ a, st.acts[j]? = some a := ⟨_, List.getElem?_eq_getElem (by have := HLN.out.1; omega)⟩
      obtain ⟨v, hv⟩ : ∃ v, cs[j]? = some v := ⟨_, List.getElem?_eq_getElem (by have := HLN.out.1; have := HCS.out.2.1.1; omega)⟩
      obtain ⟨r, rfl, hrl, hrt, hrc⟩ := row_at HCS.out.2.1 hv
      have hsz := HCS.out.2.2 a (List.mem_of_getElem? ha)
      have haat := HCS.out.1 j v a hv ha
      have hbst : ty W0 bs = none := HX.out.2.1.sure.ty.p.2.2
      have hPt : ty W0 w.heap.size = some 85 := HRS.out.p.ty
      have haW : ∀ wr, Kp (fun x => x = bs ∨ x = w.heap.size) W0 wr → AAt wr φ (Fq Q) v a := fun wr hk => (haat.ty.keep fun x hx hl => hk.block x hl (by
        rintro (e | e)
        · rw [e, hbst] at hx; simp at hx
        · rw [e, hPt] at hx; simp at hx)).mono fun _ h => h.1
      have g0 : wr.cell? ⟨r, j, none⟩ = some v := hrc wr (HR.out.k.block r hrl (by
        rintro (e | e)
        · rw [e, hbst] at hrt; cases hrt
        · rw [e, hPt] at hrt; cases hrt))
      obtain ⟨fid, caps, rfl, hen, hcall⟩ := act_fn haat ⟨hsz.1, hsz.2.1⟩
      have g2 : Hid (∀ wr, Kp (fun x => x = bs ∨ x = w.heap.size) W0 wr → wr.cell? ⟨D, 2, none⟩ = some (.map (some bs))) := Lib.hid fun wr hk => (hDc.out wr hk).at_ rfl
      have HA := Lib.hid (And.intro ha (And.intro haW (And.intro hcall hbst)))
      have y0 : (0 : Int) ≤ (j : Int) := by omega
      have y1 : (j : Int) < (ln : Int) := by omega
      clear hv hrl hrt hrc hsz haat hbst hPt haW ha hcall
      have hnx := next59 w.heap.size χ _ wr HR.out.p (fun h => by have := HX.out.2.2.2.1 _ h; omega)
      cases ho : odd (pick keep j)
      · have ob := odd_bit (pick keep j)
        rw [ho] at ob
        have HO := Lib.hid ho
        clear ho
        go_wp2_with fail
        refine hnx.mono ?_
        clear hnx
        intro e w1 hp
        have HR1 := Lib.hid (HR.out.next HP.out.1 hp).2
        obtain rfl := (HR.out.next HP.out.1 hp).1
        clear hp
        go_wp2_with fail
        go_roundw
        case rel => exact ⟨j + 1, by omega, by go_num, Lib.hid (HR1.out.skip HA.out.1 HO.out)⟩
        case measure => simp [intOf]; omega
      · have ob := odd_bit (pick keep j)
        rw [ho] at ob
        have HO := Lib.hid ho
        clear ho
        go_wp2_with fail
        refine hnx.mono ?_
        clear hnx
        intro e w1 hp
        have HR1 := Lib.hid (HR.out.next HP.out.1 hp).2
        obtain rfl := (HR.out.next HP.out.1 hp).1
        clear hp
        have c2 := g2.out w1 HR1.out.k
        have hca := HA.out.2.2.1 w1 φ bs _ (HA.out.2.1 w1 HR1.out.k) HR1.out.m (by
          have h1 := crashA_len keep (st.acts.take j) 0 st.sure
          have h2 : (st.acts.take j).length ≤ st.acts.length := by rw [List.length_take]; omega
          have := HLN.out.2
          omega)
        go_wp2_with fail
        refine hca.mono ?_
        clear hca
        intro e w2 hp
        have HR2 := Lib.hid (HR1.out.act HP.out.2.1 (fun h => (HX.out.2.2.2.1 _ h).1 HX.out.1.sure.p) HA.out.1 HO.out hp)
        obtain rfl := hp.1
        clear hp
        go_wp2_with fail
        go_roundw
        case rel => exact ⟨j + 1, by omega, by go_num, HR2⟩
        case measure => simp [intOf]; omega
    · obtain rfl : j = ln := by omega
      have c2 : wr.cell? ⟨D, 2, none⟩ = some (.map (some bs)) := (hDc.out wr HR.out.k).at_ rfl
      have hmr : Mp wr φ bs (Fq Q) (crashA keep 0 st.acts st.sure) := by have := HR.out.m; rwa [HLN.out.1, List.take_length] at this
      have hcl := clone58 bs (Fq Q) _ wr hmr
      have hLl : (crashA keep 0 st.acts st.sure).length ≤ 1000000 := by have h1 := crashA_len keep st.acts 0 st.sure; have := HLN.out.2; omega
      obtain ⟨L, hLe⟩ : ∃ L, L = crashA keep 0 st.acts st.sure := ⟨_, rfl⟩
      rw [← hLe] at hcl hLl
      have HL := Lib.hid hLe
      clear hmr hLe
      go_wp2_with fail
      refine hcl.mono ?_
      clear hcl
      rintro e w1 ⟨rfl, hm1, hb1⟩
      have hA1 := (hDc.out wr HR.out.k).below hb1 (hDc.out wr HR.out.k).lt
      have f1 := hA1.frozen 1
      have f3 := hA1.frozen 3
      have s1 : w1.cell? ⟨D, 1, none⟩ = some (.map (some bn)) := hA1.at_ rfl
      have s3 : w1.cell? ⟨D, 3, none⟩ = some (.slice Ap st.acts.length cp) := hA1.at_ rfl
      clear hA1
      obtain ⟨w2, hw2⟩ : ∃ w2, w2 = (w1.setCell ⟨D, 3, none⟩ (.slice none 0 0)).setCell ⟨D, 1, none⟩ (.map (some wr.heap.size)) := ⟨_, rfl⟩
      have HM := Lib.hid (crash_mid (w2 := w2) HX.out.2.2.1 HX.out.2.2.2.1 HX.out.2.1 HX.out.2.2.2.2.2 HRS.out.p.lt (by have h1 := HR.out; rw [HLN.out.1] at h1; exact h1) (by rw [← HL.out]; exact hm1) hb1 hw2)
      have hk61 := keys61 (some wr.heap.size) w2
      have hs60 := sorted60 wr.heap.size (Fq Q) L w2 (by rw [HL.out]; exact HM.out.1.now.m) (by rw [HL.out]; exact HM.out.1.inv.risd) hLl
      clear hm1 hb1
      go_wp2_with fail
      rw [← hw2]
      clear hw2
      go_wp2_with fail
      refine hk61.mono ?_
      clear hk61
      rintro e w3 ⟨rfl, rfl⟩
      go_wp2_with fail
      refine hs60.mono ?_
      clear hs60
      rintro e w3 ⟨v, rfl, hrow, hb3⟩
      have HS := Lib.hid (crash_loop (v := v) HM.out hb3 (by rw [← HL.out]; exact hrow) HX.out.2.2.2.2.1)
      obtain ⟨Av, cv, rfl, _⟩ := Rd.of_own hrow
      obtain ⟨bn', hbn'⟩ : ∃ b, b = wr.heap.size := ⟨_, rfl⟩
      obtain ⟨base, hbase⟩ : ∃ b, b = w2.heap.size + 1 := ⟨_, rfl⟩
      rw [← hbn', ← hbase, ← HL.out] at HS
      clear hrow hb3 HM f1 f3 c2 s1 s3 hbn' hbase
      go_wp2_with fail
      obtain ⟨ml, hml⟩ : ∃ ml, ml = L.length := ⟨_, rfl⟩
      have HML := Lib.hid hml
      rw [← hml] at hLl
      simp only [← hml]
      clear hml hDc HRS HCS HR
      go_loopw [52] (fun i wr => ∃ k j : Nat, j ≤ ml ∧ i = .int .i64 j ∧ Hid (R2 w φ χ w.heap.size D bn' bs base (.slice Av L.length cv) (crash1 st keep) keep L (Fq Q) st.acts.length k j wr) ∧ Hid (k = (crashT keep L st.acts.length (crash1 st keep).fs j).1)) (fun i _ => ml - (intOf i).toNat)
      case atStart => exact ⟨_, 0, by omega, rfl, HS, Lib.hid rfl⟩
      case round =>
        obtain ⟨k, j, hj, rfl, HR, HK⟩ := hrel
        by_cases hjl : j < ml
        · obtain ⟨x, hx⟩ : ∃ x, L[j]? = some x := ⟨_, List.getElem?_eq_getElem (by have := HML.out; omega)⟩
          obtain ⟨Q1, h0, h1, h2, h3, h4, h5⟩ := HR.out
          obtain ⟨r, rfl, _, _, hrc⟩ := row_at (j := j) (u := .string x.n) h4 (by rw [List.getElem?_map, hx]; rfl)
          have g0 : wr.cell? ⟨r, j, none⟩ = some (.string x.n) := hrc wr rfl
          have c1 : wr.cell? ⟨D, 1, none⟩ = some (.map (some bn')) := h1.d.at_ rfl
          have hdir : (crash1 st keep).dir = L := HL.out.symm
          obtain ⟨fs, hfs⟩ : ∃ fs, fs = (crashT keep L st.acts.length (crash1 st keep).fs j).2 := ⟨_, rfl⟩
          have hd2 : ({ crash1 st keep with fs := fs } : Ds).dir = L := hdir
          rw [← hfs] at h1 h5
          have hfx : fnd x.nm L = some x.f := fnd_mem (by have := h1.inv.risd; rwa [hd2] at this) (List.mem_of_getElem? hx)
          have hxs : x.n.size ≤ 60 := (h1.inv.dir x (by rw [hd2]; exact List.mem_of_getElem? hx)).2
          obtain ⟨q, hq, hFq, hqx, hat, hrng⟩ := h1.file (n := x.n.data.toList) (j := x.f) (by rw [hd2]; exact hfx)
          have hlk := look_2 h1.now.m x.n (by unfold maxLen; omega)
          have hlk2 := look_2 (w := wr.drew) (own_heap h1.now.m rfl) x.n (by unfold maxLen; omega)
          rw [show lkv (Fq Q1) x.n.data.toList _ = Value.pointer (some ⟨Fq Q x.f, 0, none⟩) from by rw [hd2, lkv_some (n := x.n.data.toList) hfx, h0]] at hlk hlk2
          obtain ⟨Af, cf, hqs, _, hlc, hcm2, _⟩ := hat.b.form
          obtain ⟨y, hy⟩ : ∃ y, y = fl fs x.f := ⟨_, rfl⟩
          have hqx2 : fs[x.f]? = some (fl fs x.f) := hqx
          have hyb : y.b.length ≤ 1000000000 := by rw [hy]; exact h5 _ (List.mem_of_getElem? hqx2)
          change Q1[x.f]? = some q at hq
          have hqF : q.1 = Fq Q x.f := by rw [← hFq, h0]
          obtain ⟨fa, hfa⟩ : ∃ fa, fa = Fq Q x.f := ⟨_, rfl⟩
          rw [← hfa] at hlk hlk2 hqF
          have g1 : wr.cell? ⟨fa, 0, none⟩ = some (.slice Af y.b.length cf) := by rw [hy, ← hqF]; have := hat.a.at_ (i := 0) rfl; rw [hqs] at this; exact this
          have g2 : wr.cell? ⟨fa, 1, none⟩ = some (.int .i64 (y.s : Nat)) := by rw [hy, ← hqF]; exact hat.a.at_ rfl
          have y0 : (0 : Int) ≤ (j : Int) := by omega
          have y1 : (j : Int) < (ml : Int) := by omega
          have HD := Lib.hid (fun (nq : Nat) => R2.drewN HR.out nq)
          by_cases hs : y.s < y.b.length
          · have d1 : decide (y.s < y.b.length) = true := decide_eq_true hs
            have d2 : decide ((y.s : Int) < (y.b.length : Int)) = true := decide_eq_true (by omega)
            have HT : Hid (∀ W, R2 w φ χ w.heap.size D bn' bs base (.slice (some ⟨r, 0, none⟩) L.length cv) (crash1 st keep) keep L (Fq Q) st.acts.length (k + 2) j W → ∃ q : Nat × Value, q.1 = fa ∧ FAt W (wid φ w W) q y ∧ y.b.length ≤ 1000000000 ∧ (∀ z ∈ y.b, z < 256) ∧
                ∀ e w1, KeptPost W (wid φ w W) q y (pick keep k) (odd (pick keep (k + 1))) e w1 → e = .returned (.tuple #[]) ∧ R2 w φ χ w.heap.size D bn' bs base (.slice (some ⟨r, 0, none⟩) L.length cv) (crash1 st keep) keep L (Fq Q) st.acts.length (k + 2) (j + 1) w1 ∧ k + 2 = (crashT keep L st.acts.length (crash1 st keep).fs (j + 1)).1) := by
              refine Lib.hid fun W hR => ?_
              have := hR.turn HX.out.2.2.1 HX.out.2.2.2.1 HK.out hx hdir (by rw [← hfs, ← hy]; exact hs)
              rw [← hfs, ← hy, ← hfa] at this
              exact this
            have HS1 := Lib.hid hs
            have hnP : ¬ χ w.heap.size := fun h => by have := HX.out.2.2.2.1 _ h; omega
            clear hx h0 h1 h2 h3 h4 h5 hrc hdir hfs hd2 hfx hq hFq hqx hat hrng hqs hy hqx2 hqF hfa
            go_wp2_with fail
            go_quiet (fail)
            go_wp2_with fail
            obtain ⟨_, _, _, hpk, _⟩ := HD.out nq
            have hnx := next59 w.heap.size χ _ _ hpk hnP
            clear hpk
            refine hnx.mono ?_
            clear hnx
            intro e w4 hp
            have HR4 := Lib.hid ((HD.out nq).next (Nat.le_refl _) hp).2
            obtain rfl := ((HD.out nq).next (Nat.le_refl _) hp).1
            clear hp
            go_wp2_with fail
            obtain ⟨_, _, _, hpk, _⟩ := HR4.out
            have hnx := next59 w.heap.size χ _ _ hpk hnP
            clear hpk
            refine hnx.mono ?_
            clear hnx
            intro e w5 hp
            have HR5 := Lib.hid (HR4.out.next (Nat.le_refl _) hp).2
            obtain rfl := (HR4.out.next (Nat.le_refl _) hp).1
            clear hp
            obtain ⟨⟨q1, qv⟩, hqa, hat, hyb2, hlt, hend⟩ := HT.out w5 HR5.out
            obtain rfl : q1 = fa := hqa
            have hc62 := kept62 q1 qv _ y (pick keep k) (odd (pick keep (k + 1))) w5 hat HS1.out hyb2 hlt
            have ob := odd_bit (pick keep (k + 1))
            have HEN := Lib.hid hend
            clear hend hat hlt
            go_wp2_with fail
            refine hc62.mono ?_
            clear hc62
            intro e w6 hp
            have HR6 := Lib.hid (HEN.out e w6 hp).2
            obtain rfl := (HEN.out e w6 hp).1
            clear hp
            go_wp2_with fail
            go_roundw
            case rel => exact ⟨k + 2, j + 1, by omega, by go_num, Lib.hid HR6.out.1, Lib.hid HR6.out.2⟩
            case measure => simp [intOf]; omega
          · have HN := Lib.hid (fun (nq : Nat) => R2.pass (HD.out nq) HK.out hx (by rw [← hfs, ← hy]; exact hs))
            have d1 : decide (y.s < y.b.length) = false := decide_eq_false hs
            have d2 : decide ((y.s : Int) < (y.b.length : Int)) = false := decide_eq_false (by omega)
            clear hx h0 h1 h2 h3 h4 h5 hrc hdir hfs hd2 hfx hq hFq hqx hat hrng hqs hy hqx2 hqF hfa
            go_wp2_with fail
            go_quiet (fail)
            go_wp2_with fail
            go_roundw
            case rel => exact ⟨k, j + 1, by omega, by go_num, Lib.hid (HN.out nq).1, Lib.hid (HN.out nq).2⟩
            case measure => simp [intOf]; omega
        · obtain rfl : j = ml := by omega
          have HE := Lib.hid (fun (w' : World) (h1 : Kp (fun x => x = D) wr w') hA => crash_end (w1 := w') HX.out.2.2.1 (by have := HR.out; rwa [HML.out, HL.out] at this) h1 hA)
          obtain ⟨Q1, h0, h1, h2, h3, h4, h5⟩ := HR.out
          have q4 := h1.d.at_ (i := 4) rfl
          have q5 := h1.d.at_ (i := 5) rfl
          have q6 := h1.d.at_ (i := 6) rfl
          have f4 := h1.d.frozen 4
          have f5 := h1.d.frozen 5
          have f6 := h1.d.frozen 6
          clear h0 h1 h2 h3 h4 h5
          go_wp2_with fail
          go_end0
          obtain ⟨r1, r2⟩ := HE.out _ (((Kp.set (fun x => x = D) wr D 4 _ rfl).trans (Kp.set (fun x => x = D) _ D 5 _ rfl) (fun _ _ h => h)).trans (Kp.set (fun x => x = D) _ D 6 _ rfl) (fun _ _ h => h)) (fun cs h => ((h.set 4 _).set 5 _).set 6 _)
          exact ⟨rfl, r1, r2⟩
end Go.Proofs.Ytedjfbkfaioihaa
