/- What the reference's Make answers: as labels.Make. Conditions: at most 10^6 labels. -/
import Derived.Test.YtlicnadbccjbjaaDoorAlive
import Derived.Deep.LoopGhost
import Derived.Deep.AppendSrc
import Derived.BigQuiet
namespace Go.Proofs.YtlicnadbccjbjaaDoor
open Go.RowKit LB

/-- An append to a slice without room: a new row. -/
theorem run_append_full (w : World) (A : Option Addr) (k B : Nat) (l xs : List Lab) (a : Addr) (m c base : Nat) (hr : Lv w B A k l) (hl : xs.length = m) (hm : 0 < m) (hnews : ∀ j u, (lv xs)[j]? = some u → w.cell? (a.add j) = some u)
    (hk : k + m ≤ 1000000) (hbase : base ≤ w.heap.size) :
    ∃ v' w', (Builtin.append_ #[22, 22] 22 #[.slice A k k, .slice (some a) m c]).run Tryd.prog w = .ok v' w' ∧ w'.ownsRow base 37 2 v' (k + m) (lv (l ++ xs)) ∧ w.grownBy w' none ∧ v'.ownBlock = some w.heap.size := by
  obtain ⟨i0, hi, hz0, hz1, hz2⟩ := info_parts Tryd.info37
  have hold : (Builtin.firstCells i0.size k (.slice A k k)).run Tryd.prog w.drew = .ok (lv l).toArray w.drew := by
    rw [hz1]
    rcases A with _ | ad
    · obtain ⟨rfl, rfl⟩ := hr.none_zero
      exact run_firstCells_none w.drew 2 0 0 0
    · exact run_firstCells_some w.drew 2 k ad k k (lv l) (by rw [lv_len, hr.1]; omega) (fun j u hu => hr.news j u hu)
  have hsrc : Src Tryd.prog i0.size 22 (.slice (some a) m c) m (lv xs) w := by
    rw [hz1]
    exact Src.ofSlice w Tryd.underlying22 a m c (lv xs) (by rw [lv_len, hl]; omega) hnews (lv_one xs)
  have hcap := grownCap_ge w (k + m) k 37
  have hcap2 := grownCap_le_maxLen w (k + m) k 37 (by unfold maxLen; omega)
  have hrun := run_append_grow_src (P := Tryd.prog) (w := w) 22 22 22 37 i0 _ Tryd.underlying22 hi hz0 A k k (lv l) hold (.slice (some a) m c) m (lv xs) hsrc (by omega) (by omega) (by rw [hz2]; exact growslice_fits (by omega) (by omega))
  have hlen : (lv l ++ lv xs).length = (k + m) * 2 := by rw [List.length_append, lv_len, lv_len, hr.1, hl]; omega
  refine ⟨_, _, hrun, ⟨by rw [lv_append]; exact hlen, .inr ⟨w.heap.size, _, _, rfl, hbase, heap_alloc_new w.drew _, hcap, hcap2, ?_, ?_⟩⟩, ⟨rfl, rfl, rfl, by simp, fun x hx _ => Below.heap_alloc w.drew _ x hx⟩, rfl⟩
  · simp only [Array.size_append, List.size_toArray, size_zeroCells, hlen]
    show (k + m) * 2 + _ * 2 = _
    rw [← Nat.add_mul]
    congr 1
    omega
  · simp only [Array.toList_append, lv_append]
    rw [← hlen]
    exact List.take_left

theorem step_append_full {w : World} {ops : Array Oper} {o : Oper} {a : Act} {K : Act → World → Prop} {Q : Exit → Act → World → Prop} {E : Prop} (hgd : o.guard = none) (s x : Operand)
    (ho : o.op = .call { callee := .builtin .append, args := #[s, x], argTypes := #[22, 22] }) (hty : o.type = 22)
    (A : Option Addr) (k B : Nat) (l xs : List Lab) (ad : Addr) (m c base : Nat) (hs : a.eval s = .slice A k k) (hx : a.eval x = .slice (some ad) m c) (hr : Lv w B A k l) (hl : xs.length = m) (hm : 0 < m) (hnews : ∀ j u, (lv xs)[j]? = some u → w.cell? (ad.add j) = some u)
    (hk : k + m ≤ 1000000) (hbase : base ≤ w.heap.size)
    (h : ∀ v' w', w'.ownsRow base 37 2 v' (k + m) (lv (l ++ xs)) → w.grownBy w' none → v'.ownBlock = some w.heap.size → K (a.put o.dst v') w') :
    if Region.wanted o (yielded ops a.tmps) = true then Oper.wp Tryd.prog o a w K Q else E := by
  have hw : Region.wanted o (yielded ops a.tmps) = true := by simp [Region.wanted, hgd]
  rw [if_pos hw]
  obtain ⟨v', w', hrun, h2, h3, h4⟩ := run_append_full w A k B l xs ad m c base hr hl hm hnews hk hbase
  rw [← hty] at hrun
  unfold Oper.wp execOp
  simp only [ho, resolve, invoke, builtin, Sem.run_bind, Sem.run_pure, Result.andThen_ok, List.map_toArray, List.map_cons, List.map_nil, hs, hx]
  rw [hty] at hrun ⊢
  simp only [hrun]
  exact h v' w' h2 h3 h4
theorem run_append_lv {P : Program} (w : World) (base : Nat) (t ty e : TypeId) (i : TypeInfo) (z : Value) (bytes : Nat) (ht : P.underlying t = some (.slice e)) (hi : P.info? e = some i) (hz : i.zero = some z)
    (hsize : i.size = 2) (hby : i.bytes = bytes) (hzs : z.cells.size = 2) (v : Value) (n : Nat) (xs : List Value) (hown : w.ownsRow base e 2 v n xs)
    (A : Option Addr) (m c B : Nat) (l : List Lab) (hr : Lv w B A m l) (h63 : n + m ≤ maxLen) (hbytes : (n + m) * bytes ≤ 140737488355328) (hbase : base ≤ w.heap.size) :
    ∃ v' w', (Builtin.append_ #[t, t] ty #[v, .slice A m c]).run P w = .ok v' w' ∧ w'.ownsRow base e 2 v' (n + m) (xs ++ lv l) ∧ w.grownBy w' v.ownBlock ∧ (v'.ownBlock = v.ownBlock ∨ v'.ownBlock = some w.heap.size) := by
  rcases A with _ | ad
  · obtain ⟨rfl, rfl⟩ := hr.none_zero
    refine ⟨v, w, ?_, by simpa [lv] using hown, World.grownBy.refl w _, .inl rfl⟩
    rcases hown.2 with ⟨rfl, rfl⟩ | ⟨g, cap, cur, rfl, _, _, hnc, _⟩
    · simp [Builtin.append_, run_underlying ht, sizeOf, typeInfo, hi, Builtin.lenOf, Builtin.firstCells, loadCells, loadCellsFrom]
    · simp [Builtin.append_, run_underlying ht, sizeOf, typeInfo, hi, Builtin.lenOf, Builtin.firstCells, hnc, storeCells, loadCells, loadCellsFrom]
  · obtain ⟨v', w', hrun, h2, h3, _, h5⟩ := run_append_own_at (P := P) w base t ty e i z 2 bytes ht hi hz hsize hby hzs (by omega) v n xs hown ad m c (lv l) (by rw [lv_len, hr.1, Nat.mul_comm]) hr.news (lv_one l) h63 hbytes hbase
    exact ⟨v', w', hrun, h2, h3, h5⟩
theorem step_append_lv {P : Program} {w : World} {ops : Array Oper} {o : Oper} {a : Act} {K : Act → World → Prop} {Q : Exit → Act → World → Prop} {E : Prop} (hgd : o.guard = none) (s x : Operand) (t : TypeId)
    (ho : o.op = .call { callee := .builtin .append, args := #[s, x], argTypes := #[t, t] })
    (base : Nat) (e : TypeId) (i : TypeInfo) (z : Value) (bytes : Nat) (ht : P.underlying t = some (.slice e)) (hi : P.info? e = some i) (hz : i.zero = some z)
    (hsize : i.size = 2) (hby : i.bytes = bytes) (hzs : z.cells.size = 2) (v : Value) (n : Nat) (xs : List Value) (hs : a.eval s = v) (hown : w.ownsRow base e 2 v n xs)
    (A : Option Addr) (m c B : Nat) (l : List Lab) (hx : a.eval x = .slice A m c) (hr : Lv w B A m l) (h63 : n + m ≤ maxLen) (hbytes : (n + m) * bytes ≤ 140737488355328) (hbase : base ≤ w.heap.size)
    (h : ∀ v' w', w'.ownsRow base e 2 v' (n + m) (xs ++ lv l) → w.grownBy w' v.ownBlock → (v'.ownBlock = v.ownBlock ∨ v'.ownBlock = some w.heap.size) → K (a.put o.dst v') w') :
    if Region.wanted o (yielded ops a.tmps) = true then Oper.wp P o a w K Q else E := by
  have hw : Region.wanted o (yielded ops a.tmps) = true := by simp [Region.wanted, hgd]
  rw [if_pos hw]
  obtain ⟨v', w', hrun, h2, h3, h4⟩ := run_append_lv (P := P) w base t o.type e i z bytes ht hi hz hsize hby hzs v n xs hown A m c B l hr h63 hbytes hbase
  unfold Oper.wp execOp
  simp only [ho, resolve, invoke, builtin, Sem.run_bind, Sem.run_pure, Result.andThen_ok, List.map_toArray, List.map_cons, List.map_nil, hs, hx, hrun]
  exact h v' w' h2 h3 h4
theorem Lv.any0 {n : Nat} (h : n = 0) (w : World) (B : Nat) (A : Option Addr) : Lv w B A n [] := by subst h; exact ⟨rfl, fun h => absurd h (by omega)⟩
theorem Lv.pre {w : World} {B n : Nat} {A : Option Addr} {p q : List Lab} (h : Lv w B A n (p ++ q)) : Lv w B A p.length p := by
  refine ⟨rfl, fun hp => ?_⟩
  have hn := h.1
  rw [List.length_append] at hn
  obtain ⟨b, off, e, hb, hc⟩ := h.2 (by omega)
  refine ⟨b, off, e, hb, fun j u hu => hc j u ?_⟩
  rw [lv_append, List.getElem?_append_left (List.getElem?_eq_some_iff.1 hu).1]; exact hu
theorem Lv.post {w : World} {B n b off : Nat} {p q : List Lab} (h : Lv w B (some ⟨b, off, none⟩) n (p ++ q)) : Lv w B (some ⟨b, off + p.length * 2, none⟩) q.length q := by
  refine ⟨rfl, fun hp => ?_⟩
  have hn := h.1
  rw [List.length_append] at hn
  obtain ⟨b', off', e, hb, hc⟩ := h.2 (by omega)
  injection e with e
  injection e with e1 e2
  subst e1; subst e2
  refine ⟨b, _, rfl, hb, fun j u hu => ?_⟩
  have := hc (p.length * 2 + j) u (by rw [lv_append, List.getElem?_append_right (by rw [lv_len]; omega), lv_len]; rw [show p.length * 2 + j - 2 * p.length = j by omega]; exact hu)
  rw [Nat.add_assoc]; exact this

theorem all_snoc {p : List Lab} {y : Lab} {xn : ByteArray} (h : ∀ z ∈ p, lt z.1 xn = true) (k : lt y.1 xn = true) : ∀ z ∈ p ++ [y], lt z.1 xn = true := by
  intro z hz
  rcases List.mem_append.1 hz with hz | hz
  · exact h z hz
  · simp at hz; rw [hz]; exact k
/-- What the reference's Make answers. -/
def RPost (w : World) (l : List Lab) (r : Ending) (w' : World) : Prop :=
  ∃ v, r = .returned (.tuple #[v, .int .i64 (mkE l)]) ∧ w'.ownsRow w.heap.size 37 2 v (mkR l).length (lv (mkR l)) ∧ Below w.heap.size w w'
theorem rpost_none {w w' : World} {l : List Lab} (h : mkL l = none) (hb : Below w.heap.size w w') : RPost w l (.returned (.tuple #[.slice none 0 0, .int .i64 20])) w' := mpost_none h hb

set_option maxRecDepth 100000 in
set_option maxHeartbeats 4000000 in
theorem rmake_any (A : Option Addr) (n c B : Nat) (l : List Lab) (w : World) (hr : Lv w B A n l) (hB : B ≤ w.heap.size) :
    Calls Tryd.prog 13 #[.slice A n c] w (RPost w l) := by
  obtain ⟨i0, hi, hz0, hz1, hz2⟩ := info_parts Tryd.info37
  have hln := hr.1
  by_cases h0 : n = 0
  · have hm : mkL l = none := by unfold mkL; rw [if_pos (.inl (by omega))]
    subst h0
    go_enter Tryd.func13, Tryd.ntmps13
    go_wp2_with fail
    go_ret2
    exact rpost_none hm (Below.refl _ _)
  · by_cases h16 : n ≤ 16
    · have d0 : (((n : Nat) : Int) == 0) = false := by rw [beq_eq_false_iff_ne]; omega
      have d16 : decide (16 < ((n : Nat) : Int)) = false := decide_eq_false (by omega)
      go_enter Tryd.func13, Tryd.ntmps13
      go_wp2_with fail
      have hmk : mkL l = foldL l := by unfold mkL; rw [if_neg (by omega)]
      have HMK := Lib.hid hmk
      clear hmk
      go_loopw [4, 5] (fun o i wr => ∃ (k : Nat) (m : List Lab), k ≤ n ∧ i = .int .i64 k ∧ foldL (l.take k) = some m ∧ wr.ownsRow w.heap.size 37 2 o k (lv m) ∧ Below w.heap.size w wr) (fun _ i _ => n - (intOf i).toNat)
      case atStart => exact ⟨0, [], Nat.zero_le _, rfl, rfl, World.ownsRow_nil _ _ _ _, Below.refl _ _⟩
      case round =>
        obtain ⟨k, m, hk, rfl, hf, hown, hb⟩ := hrel
        obtain ⟨wo, rfl⟩ : ∃ wo : World, wo = wr := ⟨_, rfl⟩
        by_cases hlt : k < n
        · obtain ⟨x, hx⟩ : ∃ x, l[k]? = some x := ⟨_, List.getElem?_eq_getElem (by omega)⟩
          have hrr := hr.below (hb.mono hB)
          obtain ⟨b, off, rfl, hbB, hcc⟩ := hrr.at2 hlt
          obtain ⟨c0, c1⟩ := hcc k x hx
          obtain ⟨xn, xv⟩ := x
          have hfs : foldL (l.take (k + 1)) = stepL (foldL (l.take k)) (xn, xv) := by
            rw [foldL_take (by omega)]
            congr 1
            rw [List.getElem?_eq_getElem (by omega)] at hx
            injection hx
          rw [hf] at hfs
          have HF := Lib.hid hfs
          have HFK := Lib.hid hf
          have hs := hb.size
          have hnm := rname_any xn wo
          clear hcc hfs hx hf hrr
          by_cases hok : labOK (xn, xv) = true
          · have hok2 := hok
            unfold labOK at hok2
            simp only [Bool.and_eq_true, decide_eq_true_eq] at hok2
            obtain ⟨⟨hn1, hv0⟩, hv64⟩ := hok2
            rw [hn1] at hnm
            have he := not_empty (s := xv) (by omega)
            have d64 : decide (64 < ((xv.size : Nat) : Int)) = false := decide_eq_false (by omega)
            obtain ⟨A4, c4, rfl, hlv, hc4, hc4m⟩ := Lv.of_own hown
            have hml : m.length = k := hlv.1
            have HML := Lib.hid hml
            have hup := (foldL_up (l := l.take k) (m := m) HFK.out).1
            have HUP := Lib.hid hup
            have HF2 : Hid (foldL (l.take (k + 1)) = insL m (xn, xv)) := by
              show _ = _
              rw [HF.out]; unfold stepL; rw [Option.bind_some, if_pos hok]
            clear hup hml hown
            go_wp2_with (go_at_call 31; refine hnm.mono ?_; rintro e w2 ⟨rfl, hw2⟩; rw [hw2]; clear hw2 w2)
            go_loopw [7] (fun i wb => ∃ (pre post : List Lab) (q : Nat), i = .int .i64 pre.length ∧ Hid (pre ++ post = m) ∧ Hid (∀ y ∈ pre, lt y.1 xn = true) ∧ wb = wo.drewN q) (fun i _ => k - (intOf i).toNat)
            case atStart => exact ⟨[], m, 0, rfl, Lib.hid rfl, Lib.hid (by simp), rfl⟩
            case round =>
              obtain ⟨pre, post, q, rfl, hpm, hpre, rfl⟩ := hrel
              have hplk : pre.length ≤ k := by rw [← HML.out, ← hpm.out]; simp
              obtain ⟨w1, hw1⟩ : ∃ w1, w1 = wo.drewN q := ⟨_, rfl⟩
              have HW1 := Lib.hid hw1
              have hlv1 : Lv w1 wo.heap.size A4 k (pre ++ post) := by rw [hw1, hpm.out]; exact hlv.drewN q
              have hb1 : Below w.heap.size w w1 := by rw [hw1]; exact below_drewN hb q
              have c01 : w1.cell? ⟨b, off + k * 2, none⟩ = some (.string xn) := by rw [hw1]; exact c0
              have c11 : w1.cell? ⟨b, off + k * 2 + 1, none⟩ = some (.string xv) := by rw [hw1]; exact c1
              rw [← hw1]
              have HB1 := Lib.hid hb1
              clear hw1 hb1
              cases post with
              | nil =>
                have hpk : pre.length = k := by rw [← HML.out, ← hpm.out]; simp
                have e1 : decide (pre.length < k) = false := decide_eq_false (by omega)
                have HPK := Lib.hid hpk
                clear hpk c0 c1
                have HIN : Hid (foldL (l.take (k + 1)) = some (pre ++ (xn, xv) :: [])) := by
                  show _ = _
                  rw [HF2.out, ← hpm.out]; exact insL_mid hpre.out (by simp)
                have HLP := Lib.hid hlv1.pre
                have hs15 : wo.heap.size ≤ w1.heap.size := by rw [HW1.out]; exact Nat.le_refl _
                clear hlv1 hlv
                rcases A4 with _ | ad4
                · by_cases hcj : c4 = pre.length
                  · go_wp2_with fail
                    go_quiet (fail)
                    go_wp2_with fail
                    go_quiet (fail)
                    go_wp2_with (at_builtin; refine wpList_copyL rfl (.const (.slice none 0 0)) (.tmp 86) 22 rfl 37 i0 _ 32 Tryd.underlying22 hi hz0 hz1 hz2 rfl rfl _ (k - pre.length) _ wo.heap.size ([]) rfl (Lv.any0 (by rw [HPK.out]; omega) _ _ _) (by omega) (by unfold maxLen; omega) ?_; intro v5 w5 hown5 hb5)
                    obtain ⟨A5, c5, rfl, hlv5, hc5, hc5m⟩ := Lv.of_own hown5
                    have hs5 : wo.heap.size ≤ w5.heap.size := Nat.le_trans hs15 hb5.size
                    have hbw5 : Below w.heap.size w w5 := (below_drewN HB1.out _).trans (hb5.mono (Nat.le_trans hs hs15))
                    have hbW : b < w5.heap.size := by omega
                    have hlvp : Lv w5 wo.heap.size none pre.length pre := (HLP.out.drewN _).below (hb5.mono hs15)
                    have c05 : w5.cell? ⟨b, off + k * 2, none⟩ = some (.string xn) := (hb5.cell (p := ⟨b, off + k * 2, none⟩) (by simp; omega)).trans c01
                    have c15 : w5.cell? ⟨b, off + k * 2 + 1, none⟩ = some (.string xv) := (hb5.cell (p := ⟨b, off + k * 2 + 1, none⟩) (by simp; omega)).trans c11
                    have ne0 : ∀ X : Obj, (w5.alloc X).cell? ⟨b, off + k * 2, none⟩ = some (.string xn) := fun X => (World.cell?_alloc_lt w5 X ⟨b, off + k * 2, none⟩ hbW).trans c05
                    have ne1 : ∀ X : Obj, (w5.alloc X).cell? ⟨b, off + k * 2 + 1, none⟩ = some (.string xv) := fun X => (World.cell?_alloc_lt w5 X ⟨b, off + k * 2 + 1, none⟩ hbW).trans c15
                    have hA0 : w.heap.size ≤ (w5.alloc (.cells #[.string xn, .string xv] 37)).heap.size := by simp; omega
                    have hA1 : pre.length + 1 ≤ 1000000 := by omega
                    have hA2 : pre.length + 1 + (k - pre.length) ≤ maxLen := by unfold maxLen; omega
                    have hA3 : (pre.length + 1 + (k - pre.length)) * 32 ≤ 140737488355328 := by omega
                    have z0 : (0 : Int) ≤ (pre.length : Int) := by omega
                    have z1 : (pre.length : Int) ≤ (c4 : Int) := by omega
                    have z2 : pre.length ≤ c4 := by omega
                    have z3 : (k : Int) < (n : Int) := by omega
                    have z4 : (0 : Int) ≤ (k : Int) := by omega
                    have HLV5 := Lib.hid hlv5
                    have HLVP := Lib.hid hlvp
                    have HB5 := Lib.hid hbw5
                    clear hown5 hb5 hlv5 hlvp hbw5 hr c01 c11
                    go_region_held3 (fun w' => w'.cell? ⟨b, off + k * 2, none⟩ = some (.string xn) ∧ w'.cell? ⟨b, off + k * 2 + 1, none⟩ = some (.string xv)) (first | go_keep | exact ⟨ne0 _, ne1 _⟩ | exact ⟨s60, s61⟩ | exact ⟨s70, s71⟩) (first | (refine step_append_full (by rfl) (.tmp 91) (.tmp 96) (by rfl) (by rfl) none pre.length w5.heap.size pre [(xn, xv)] ⟨w5.heap.size, 0, none⟩ 1 1 w.heap.size (by rfl) (by rfl) ((HLVP.out.more hs5).below ((Below.refl _ w5).alloc (Nat.le_refl _) _).drew) (by rfl) (by decide) (two_cells w5 _ _ 37) hA1 hA0 ?_; intro v6 w6 hown6 hg6 hat6; have hb6 : Below w5.heap.size w5 w6 := ((Below.refl _ w5).alloc (Nat.le_refl _) _).drew.grown hg6 (by simp) (fun k hk => by cases hk); have s60 := (hb6.cell (p := ⟨b, off + k * 2, none⟩) hbW).trans c05; have s61 := (hb6.cell (p := ⟨b, off + k * 2 + 1, none⟩) hbW).trans c15; have hs6 := hb6.size; have hlv6 := HLV5.out.below hb6; have hA4 : w.heap.size ≤ w6.heap.size := Nat.le_trans (Nat.le_trans hs hs5) hs6) | (refine step_append_lv (by rfl) (.tmp 97) (.tmp 98) 22 (by rfl) w.heap.size 37 i0 _ 32 Tryd.underlying22 hi hz0 hz1 hz2 rfl v6 (pre.length + 1) (lv (pre ++ [(xn, xv)])) (by rfl) hown6 A5 (k - pre.length) c5 w5.heap.size ([]) (by rfl) hlv6 hA2 hA3 hA4 ?_; intro v7 w7 hown7 hg7 hat7; have hb7 : Below w5.heap.size w5 w7 := hb6.grown hg7 hs6 (fun x hx => by rw [hat6] at hx; injection hx with hx; rw [← hx]; simp); have s70 := (hb7.cell (p := ⟨b, off + k * 2, none⟩) hbW).trans c05; have s71 := (hb7.cell (p := ⟨b, off + k * 2 + 1, none⟩) hbW).trans c15))
                    all_goals
                      have HFIN : Hid (w7.ownsRow w.heap.size 37 2 v7 (k + 1) (lv (pre ++ (xn, xv) :: ([]))) ∧ Below w.heap.size w w7) := by
                        refine ⟨?_, HB5.out.trans (hb7.mono (Nat.le_trans hs hs5))⟩
                        have e : pre.length + 1 + (k - pre.length) = k + 1 := by omega
                        rw [e, ← lv_append, List.append_assoc] at hown7
                        exact hown7
                      clear hown6 hg6 hat6 hb6 s60 s61 hown7 hg7 hat7 hb7 s70 s71 hlv6
                      go_wp2_with fail
                      go_roundw
                      case rel => exact ⟨k + 1, _, by omega, by go_num, HIN.out, HFIN.out.1, HFIN.out.2⟩
                      case measure => simp [intOf]; omega
                  · go_wp2_with fail
                    go_quiet (fail)
                    go_wp2_with fail
                    go_quiet (fail)
                    go_wp2_with (at_builtin; refine wpList_copyL rfl (.const (.slice none 0 0)) (.tmp 86) 22 rfl 37 i0 _ 32 Tryd.underlying22 hi hz0 hz1 hz2 rfl rfl _ (k - pre.length) _ wo.heap.size ([]) rfl (Lv.any0 (by rw [HPK.out]; omega) _ _ _) (by omega) (by unfold maxLen; omega) ?_; intro v5 w5 hown5 hb5)
                    obtain ⟨A5, c5, rfl, hlv5, hc5, hc5m⟩ := Lv.of_own hown5
                    have hs5 : wo.heap.size ≤ w5.heap.size := Nat.le_trans hs15 hb5.size
                    have hbw5 : Below w.heap.size w w5 := (below_drewN HB1.out _).trans (hb5.mono (Nat.le_trans hs hs15))
                    have hbW : b < w5.heap.size := by omega
                    have hlvp : Lv w5 wo.heap.size none pre.length pre := (HLP.out.drewN _).below (hb5.mono hs15)
                    have c05 : w5.cell? ⟨b, off + k * 2, none⟩ = some (.string xn) := (hb5.cell (p := ⟨b, off + k * 2, none⟩) (by simp; omega)).trans c01
                    have c15 : w5.cell? ⟨b, off + k * 2 + 1, none⟩ = some (.string xv) := (hb5.cell (p := ⟨b, off + k * 2 + 1, none⟩) (by simp; omega)).trans c11
                    have ne0 : ∀ X : Obj, (w5.alloc X).cell? ⟨b, off + k * 2, none⟩ = some (.string xn) := fun X => (World.cell?_alloc_lt w5 X ⟨b, off + k * 2, none⟩ hbW).trans c05
                    have ne1 : ∀ X : Obj, (w5.alloc X).cell? ⟨b, off + k * 2 + 1, none⟩ = some (.string xv) := fun X => (World.cell?_alloc_lt w5 X ⟨b, off + k * 2 + 1, none⟩ hbW).trans c15
                    have hA0 : w.heap.size ≤ (w5.alloc (.cells #[.string xn, .string xv] 37)).heap.size := by simp; omega
                    have hA1 : pre.length + 1 ≤ 1000000 := by omega
                    have hA2 : pre.length + 1 + (k - pre.length) ≤ maxLen := by unfold maxLen; omega
                    have hA3 : (pre.length + 1 + (k - pre.length)) * 32 ≤ 140737488355328 := by omega
                    have z0 : (0 : Int) ≤ (pre.length : Int) := by omega
                    have z1 : (pre.length : Int) ≤ (c4 : Int) := by omega
                    have z2 : pre.length ≤ c4 := by omega
                    have z3 : (k : Int) < (n : Int) := by omega
                    have z4 : (0 : Int) ≤ (k : Int) := by omega
                    have HLV5 := Lib.hid hlv5
                    have HLVP := Lib.hid hlvp
                    have HB5 := Lib.hid hbw5
                    clear hown5 hb5 hlv5 hlvp hbw5 hr c01 c11
                    go_region_held3 (fun w' => w'.cell? ⟨b, off + k * 2, none⟩ = some (.string xn) ∧ w'.cell? ⟨b, off + k * 2 + 1, none⟩ = some (.string xv)) (first | go_keep | exact ⟨ne0 _, ne1 _⟩ | exact ⟨s60, s61⟩ | exact ⟨s70, s71⟩) (first | (refine step_append_full (by rfl) (.tmp 91) (.tmp 96) (by rfl) (by rfl) none pre.length w5.heap.size pre [(xn, xv)] ⟨w5.heap.size, 0, none⟩ 1 1 w.heap.size (by rfl) (by rfl) ((HLVP.out.more hs5).below ((Below.refl _ w5).alloc (Nat.le_refl _) _).drew) (by rfl) (by decide) (two_cells w5 _ _ 37) hA1 hA0 ?_; intro v6 w6 hown6 hg6 hat6; have hb6 : Below w5.heap.size w5 w6 := ((Below.refl _ w5).alloc (Nat.le_refl _) _).drew.grown hg6 (by simp) (fun k hk => by cases hk); have s60 := (hb6.cell (p := ⟨b, off + k * 2, none⟩) hbW).trans c05; have s61 := (hb6.cell (p := ⟨b, off + k * 2 + 1, none⟩) hbW).trans c15; have hs6 := hb6.size; have hlv6 := HLV5.out.below hb6; have hA4 : w.heap.size ≤ w6.heap.size := Nat.le_trans (Nat.le_trans hs hs5) hs6) | (refine step_append_lv (by rfl) (.tmp 97) (.tmp 98) 22 (by rfl) w.heap.size 37 i0 _ 32 Tryd.underlying22 hi hz0 hz1 hz2 rfl v6 (pre.length + 1) (lv (pre ++ [(xn, xv)])) (by rfl) hown6 A5 (k - pre.length) c5 w5.heap.size ([]) (by rfl) hlv6 hA2 hA3 hA4 ?_; intro v7 w7 hown7 hg7 hat7; have hb7 : Below w5.heap.size w5 w7 := hb6.grown hg7 hs6 (fun x hx => by rw [hat6] at hx; injection hx with hx; rw [← hx]; simp); have s70 := (hb7.cell (p := ⟨b, off + k * 2, none⟩) hbW).trans c05; have s71 := (hb7.cell (p := ⟨b, off + k * 2 + 1, none⟩) hbW).trans c15))
                    all_goals
                      have HFIN : Hid (w7.ownsRow w.heap.size 37 2 v7 (k + 1) (lv (pre ++ (xn, xv) :: ([]))) ∧ Below w.heap.size w w7) := by
                        refine ⟨?_, HB5.out.trans (hb7.mono (Nat.le_trans hs hs5))⟩
                        have e : pre.length + 1 + (k - pre.length) = k + 1 := by omega
                        rw [e, ← lv_append, List.append_assoc] at hown7
                        exact hown7
                      clear hown6 hg6 hat6 hb6 s60 s61 hown7 hg7 hat7 hb7 s70 s71 hlv6
                      go_wp2_with fail
                      go_roundw
                      case rel => exact ⟨k + 1, _, by omega, by go_num, HIN.out, HFIN.out.1, HFIN.out.2⟩
                      case measure => simp [intOf]; omega
                · by_cases hcj : c4 = pre.length
                  · go_wp2_with fail
                    go_quiet (fail)
                    go_wp2_with fail
                    go_quiet (fail)
                    go_wp2_with (at_builtin; refine wpList_copyL rfl (.const (.slice none 0 0)) (.tmp 86) 22 rfl 37 i0 _ 32 Tryd.underlying22 hi hz0 hz1 hz2 rfl rfl _ (k - pre.length) _ wo.heap.size ([]) rfl (Lv.any0 (by rw [HPK.out]; omega) _ _ _) (by omega) (by unfold maxLen; omega) ?_; intro v5 w5 hown5 hb5)
                    obtain ⟨A5, c5, rfl, hlv5, hc5, hc5m⟩ := Lv.of_own hown5
                    have hs5 : wo.heap.size ≤ w5.heap.size := Nat.le_trans hs15 hb5.size
                    have hbw5 : Below w.heap.size w w5 := (below_drewN HB1.out _).trans (hb5.mono (Nat.le_trans hs hs15))
                    have hbW : b < w5.heap.size := by omega
                    have hlvp : Lv w5 wo.heap.size (some ad4) pre.length pre := (HLP.out.drewN _).below (hb5.mono hs15)
                    have c05 : w5.cell? ⟨b, off + k * 2, none⟩ = some (.string xn) := (hb5.cell (p := ⟨b, off + k * 2, none⟩) (by simp; omega)).trans c01
                    have c15 : w5.cell? ⟨b, off + k * 2 + 1, none⟩ = some (.string xv) := (hb5.cell (p := ⟨b, off + k * 2 + 1, none⟩) (by simp; omega)).trans c11
                    have ne0 : ∀ X : Obj, (w5.alloc X).cell? ⟨b, off + k * 2, none⟩ = some (.string xn) := fun X => (World.cell?_alloc_lt w5 X ⟨b, off + k * 2, none⟩ hbW).trans c05
                    have ne1 : ∀ X : Obj, (w5.alloc X).cell? ⟨b, off + k * 2 + 1, none⟩ = some (.string xv) := fun X => (World.cell?_alloc_lt w5 X ⟨b, off + k * 2 + 1, none⟩ hbW).trans c15
                    have hA0 : w.heap.size ≤ (w5.alloc (.cells #[.string xn, .string xv] 37)).heap.size := by simp; omega
                    have hA1 : pre.length + 1 ≤ 1000000 := by omega
                    have hA2 : pre.length + 1 + (k - pre.length) ≤ maxLen := by unfold maxLen; omega
                    have hA3 : (pre.length + 1 + (k - pre.length)) * 32 ≤ 140737488355328 := by omega
                    have z0 : (0 : Int) ≤ (pre.length : Int) := by omega
                    have z1 : (pre.length : Int) ≤ (c4 : Int) := by omega
                    have z2 : pre.length ≤ c4 := by omega
                    have z3 : (k : Int) < (n : Int) := by omega
                    have z4 : (0 : Int) ≤ (k : Int) := by omega
                    have HLV5 := Lib.hid hlv5
                    have HLVP := Lib.hid hlvp
                    have HB5 := Lib.hid hbw5
                    clear hown5 hb5 hlv5 hlvp hbw5 hr c01 c11
                    go_region_held3 (fun w' => w'.cell? ⟨b, off + k * 2, none⟩ = some (.string xn) ∧ w'.cell? ⟨b, off + k * 2 + 1, none⟩ = some (.string xv)) (first | go_keep | exact ⟨ne0 _, ne1 _⟩ | exact ⟨s60, s61⟩ | exact ⟨s70, s71⟩) (first | (refine step_append_full (by rfl) (.tmp 91) (.tmp 96) (by rfl) (by rfl) (some ad4) pre.length w5.heap.size pre [(xn, xv)] ⟨w5.heap.size, 0, none⟩ 1 1 w.heap.size (by rfl) (by rfl) ((HLVP.out.more hs5).below ((Below.refl _ w5).alloc (Nat.le_refl _) _).drew) (by rfl) (by decide) (two_cells w5 _ _ 37) hA1 hA0 ?_; intro v6 w6 hown6 hg6 hat6; have hb6 : Below w5.heap.size w5 w6 := ((Below.refl _ w5).alloc (Nat.le_refl _) _).drew.grown hg6 (by simp) (fun k hk => by cases hk); have s60 := (hb6.cell (p := ⟨b, off + k * 2, none⟩) hbW).trans c05; have s61 := (hb6.cell (p := ⟨b, off + k * 2 + 1, none⟩) hbW).trans c15; have hs6 := hb6.size; have hlv6 := HLV5.out.below hb6; have hA4 : w.heap.size ≤ w6.heap.size := Nat.le_trans (Nat.le_trans hs hs5) hs6) | (refine step_append_lv (by rfl) (.tmp 97) (.tmp 98) 22 (by rfl) w.heap.size 37 i0 _ 32 Tryd.underlying22 hi hz0 hz1 hz2 rfl v6 (pre.length + 1) (lv (pre ++ [(xn, xv)])) (by rfl) hown6 A5 (k - pre.length) c5 w5.heap.size ([]) (by rfl) hlv6 hA2 hA3 hA4 ?_; intro v7 w7 hown7 hg7 hat7; have hb7 : Below w5.heap.size w5 w7 := hb6.grown hg7 hs6 (fun x hx => by rw [hat6] at hx; injection hx with hx; rw [← hx]; simp); have s70 := (hb7.cell (p := ⟨b, off + k * 2, none⟩) hbW).trans c05; have s71 := (hb7.cell (p := ⟨b, off + k * 2 + 1, none⟩) hbW).trans c15))
                    all_goals
                      have HFIN : Hid (w7.ownsRow w.heap.size 37 2 v7 (k + 1) (lv (pre ++ (xn, xv) :: ([]))) ∧ Below w.heap.size w w7) := by
                        refine ⟨?_, HB5.out.trans (hb7.mono (Nat.le_trans hs hs5))⟩
                        have e : pre.length + 1 + (k - pre.length) = k + 1 := by omega
                        rw [e, ← lv_append, List.append_assoc] at hown7
                        exact hown7
                      clear hown6 hg6 hat6 hb6 s60 s61 hown7 hg7 hat7 hb7 s70 s71 hlv6
                      go_wp2_with fail
                      go_roundw
                      case rel => exact ⟨k + 1, _, by omega, by go_num, HIN.out, HFIN.out.1, HFIN.out.2⟩
                      case measure => simp [intOf]; omega
                  · go_wp2_with fail
                    go_quiet (fail)
                    go_wp2_with fail
                    go_quiet (fail)
                    go_wp2_with (at_builtin; refine wpList_copyL rfl (.const (.slice none 0 0)) (.tmp 86) 22 rfl 37 i0 _ 32 Tryd.underlying22 hi hz0 hz1 hz2 rfl rfl _ (k - pre.length) _ wo.heap.size ([]) rfl (Lv.any0 (by rw [HPK.out]; omega) _ _ _) (by omega) (by unfold maxLen; omega) ?_; intro v5 w5 hown5 hb5)
                    obtain ⟨A5, c5, rfl, hlv5, hc5, hc5m⟩ := Lv.of_own hown5
                    have hs5 : wo.heap.size ≤ w5.heap.size := Nat.le_trans hs15 hb5.size
                    have hbw5 : Below w.heap.size w w5 := (below_drewN HB1.out _).trans (hb5.mono (Nat.le_trans hs hs15))
                    have hbW : b < w5.heap.size := by omega
                    have hlvp : Lv w5 wo.heap.size (some ad4) pre.length pre := (HLP.out.drewN _).below (hb5.mono hs15)
                    have c05 : w5.cell? ⟨b, off + k * 2, none⟩ = some (.string xn) := (hb5.cell (p := ⟨b, off + k * 2, none⟩) (by simp; omega)).trans c01
                    have c15 : w5.cell? ⟨b, off + k * 2 + 1, none⟩ = some (.string xv) := (hb5.cell (p := ⟨b, off + k * 2 + 1, none⟩) (by simp; omega)).trans c11
                    have ne0 : ∀ X : Obj, (w5.alloc X).cell? ⟨b, off + k * 2, none⟩ = some (.string xn) := fun X => (World.cell?_alloc_lt w5 X ⟨b, off + k * 2, none⟩ hbW).trans c05
                    have ne1 : ∀ X : Obj, (w5.alloc X).cell? ⟨b, off + k * 2 + 1, none⟩ = some (.string xv) := fun X => (World.cell?_alloc_lt w5 X ⟨b, off + k * 2 + 1, none⟩ hbW).trans c15
                    have hA0 : w.heap.size ≤ (w5.alloc (.cells #[.string xn, .string xv] 37)).heap.size := by simp; omega
                    have hA1 : pre.length + 1 ≤ 1000000 := by omega
                    have hA2 : pre.length + 1 + (k - pre.length) ≤ maxLen := by unfold maxLen; omega
                    have hA3 : (pre.length + 1 + (k - pre.length)) * 32 ≤ 140737488355328 := by omega
                    have z0 : (0 : Int) ≤ (pre.length : Int) := by omega
                    have z1 : (pre.length : Int) ≤ (c4 : Int) := by omega
                    have z2 : pre.length ≤ c4 := by omega
                    have z3 : (k : Int) < (n : Int) := by omega
                    have z4 : (0 : Int) ≤ (k : Int) := by omega
                    have HLV5 := Lib.hid hlv5
                    have HLVP := Lib.hid hlvp
                    have HB5 := Lib.hid hbw5
                    clear hown5 hb5 hlv5 hlvp hbw5 hr c01 c11
                    go_region_held3 (fun w' => w'.cell? ⟨b, off + k * 2, none⟩ = some (.string xn) ∧ w'.cell? ⟨b, off + k * 2 + 1, none⟩ = some (.string xv)) (first | go_keep | exact ⟨ne0 _, ne1 _⟩ | exact ⟨s60, s61⟩ | exact ⟨s70, s71⟩) (first | (refine step_append_full (by rfl) (.tmp 91) (.tmp 96) (by rfl) (by rfl) (some ad4) pre.length w5.heap.size pre [(xn, xv)] ⟨w5.heap.size, 0, none⟩ 1 1 w.heap.size (by rfl) (by rfl) ((HLVP.out.more hs5).below ((Below.refl _ w5).alloc (Nat.le_refl _) _).drew) (by rfl) (by decide) (two_cells w5 _ _ 37) hA1 hA0 ?_; intro v6 w6 hown6 hg6 hat6; have hb6 : Below w5.heap.size w5 w6 := ((Below.refl _ w5).alloc (Nat.le_refl _) _).drew.grown hg6 (by simp) (fun k hk => by cases hk); have s60 := (hb6.cell (p := ⟨b, off + k * 2, none⟩) hbW).trans c05; have s61 := (hb6.cell (p := ⟨b, off + k * 2 + 1, none⟩) hbW).trans c15; have hs6 := hb6.size; have hlv6 := HLV5.out.below hb6; have hA4 : w.heap.size ≤ w6.heap.size := Nat.le_trans (Nat.le_trans hs hs5) hs6) | (refine step_append_lv (by rfl) (.tmp 97) (.tmp 98) 22 (by rfl) w.heap.size 37 i0 _ 32 Tryd.underlying22 hi hz0 hz1 hz2 rfl v6 (pre.length + 1) (lv (pre ++ [(xn, xv)])) (by rfl) hown6 A5 (k - pre.length) c5 w5.heap.size ([]) (by rfl) hlv6 hA2 hA3 hA4 ?_; intro v7 w7 hown7 hg7 hat7; have hb7 : Below w5.heap.size w5 w7 := hb6.grown hg7 hs6 (fun x hx => by rw [hat6] at hx; injection hx with hx; rw [← hx]; simp); have s70 := (hb7.cell (p := ⟨b, off + k * 2, none⟩) hbW).trans c05; have s71 := (hb7.cell (p := ⟨b, off + k * 2 + 1, none⟩) hbW).trans c15))
                    all_goals
                      have HFIN : Hid (w7.ownsRow w.heap.size 37 2 v7 (k + 1) (lv (pre ++ (xn, xv) :: ([]))) ∧ Below w.heap.size w w7) := by
                        refine ⟨?_, HB5.out.trans (hb7.mono (Nat.le_trans hs hs5))⟩
                        have e : pre.length + 1 + (k - pre.length) = k + 1 := by omega
                        rw [e, ← lv_append, List.append_assoc] at hown7
                        exact hown7
                      clear hown6 hg6 hat6 hb6 s60 s61 hown7 hg7 hat7 hb7 s70 s71 hlv6
                      go_wp2_with fail
                      go_roundw
                      case rel => exact ⟨k + 1, _, by omega, by go_num, HIN.out, HFIN.out.1, HFIN.out.2⟩
                      case measure => simp [intOf]; omega
              | cons y post =>
                have hpl : pre.length + (post.length + 1) = k := by rw [← HML.out, ← hpm.out]; simp
                obtain ⟨yn, yv⟩ := y
                obtain ⟨b4, off4, rfl, hb4, hc4c⟩ := hlv1.at2 (k := pre.length) (by omega)
                obtain ⟨y0, y1⟩ := hc4c pre.length (yn, yv) (by rw [List.getElem?_append_right (Nat.le_refl _)]; simp)
                have e1 : decide (pre.length < k) = true := decide_eq_true (by omega)
                have e2 : (pre.length : Int) < (k : Int) := by omega
                have hcj : ¬ c4 = pre.length := by omega
                have hs15 : wo.heap.size ≤ w1.heap.size := by rw [HW1.out]; exact Nat.le_refl _
                have hpost : ∀ z ∈ post, lt yn z.1 = true := by
                  have h := HUP.out
                  rw [← hpm.out] at h
                  exact fun z hz => (List.pairwise_cons.1 (List.pairwise_append.1 h).2.1).1 z hz
                have HPO := Lib.hid hpost
                have HLP := Lib.hid hlv1.pre
                have HLQ : Hid (Lv w1 wo.heap.size (some ⟨b4, off4 + pre.length * 2, none⟩) (k - pre.length) ((yn, yv) :: post)) := by
                  have h := hlv1.post
                  rw [show ((yn, yv) :: post).length = k - pre.length by simp; omega] at h
                  exact h
                have HPL := Lib.hid hpl
                have hplk2 : pre.length < k := by omega
                clear hlv1 hlv c0 c1 hc4c hpost hpl
                rcases lt_tri yn xn with h | h | h
                · have hl : Op.bytesLess yn.toList xn.toList = true := h
                  have HL := Lib.hid h
                  clear h
                  go_wp2_with fail
                  go_quiet (fail)
                  go_wp2_with fail
                  go_roundw
                  case rel => exact ⟨pre ++ [(yn, yv)], post, _, by rw [List.length_append]; go_num, Lib.hid (by rw [List.append_assoc]; exact hpm.out), Lib.hid (all_snoc hpre.out HL.out), by rw [HW1.out]; exact World.drewN_drewN _ _ _⟩
                  case measure => simp [intOf]; omega
                · subst h
                  have hl : Op.bytesLess yn.toList yn.toList = false := lt_irrefl yn
                  have hee : (yn.toList == yn.toList) = true := by simp
                  have hmn : mkL l = none := by
                    rw [HMK.out]
                    refine foldL_stuck (k := k + 1) ?_
                    rw [HF2.out, ← hpm.out]
                    exact insL_same hpre.out rfl
                  have HM := Lib.hid hmn
                  clear hmn
                  go_wp2_with fail
                  go_quiet (fail)
                  go_wp2_with fail
                  go_quiet (fail)
                  go_wp2_with fail
                  go_ret2
                  exact rpost_none HM.out (below_drewN (below_drewN HB1.out _) _)
                · have hl : Op.bytesLess yn.toList xn.toList = false := lt_asymm h
                  have hee : (yn.toList == xn.toList) = false := by rw [eq_beq, decide_eq_false]; exact (ne_of_lt h).symm
                  have HIN : Hid (foldL (l.take (k + 1)) = some (pre ++ (xn, xv) :: ((yn, yv) :: post))) := by
                    show _ = _
                    rw [HF2.out, ← hpm.out]
                    refine insL_mid hpre.out fun z hz => ?_
                    rcases List.mem_cons.1 hz with rfl | hz
                    · exact h
                    · exact lt_trans h (HPO.out z hz)
                  clear h
                  go_wp2_with fail
                  go_quiet (fail)
                  go_wp2_with fail
                  go_quiet (fail)
                  go_wp2_with (at_builtin; refine wpList_copyL rfl (.const (.slice none 0 0)) (.tmp 86) 22 rfl 37 i0 _ 32 Tryd.underlying22 hi hz0 hz1 hz2 rfl rfl _ (k - pre.length) _ wo.heap.size ((yn, yv) :: post) rfl (HLQ.out.drewN _) (by omega) (by unfold maxLen; omega) ?_; intro v5 w5 hown5 hb5)
                  obtain ⟨A5, c5, rfl, hlv5, hc5, hc5m⟩ := Lv.of_own hown5
                  have hs5 : wo.heap.size ≤ w5.heap.size := Nat.le_trans hs15 hb5.size
                  have hbw5 : Below w.heap.size w w5 := (below_drewN HB1.out _).trans (hb5.mono (Nat.le_trans hs hs15))
                  have hbW : b < w5.heap.size := by omega
                  have hlvp : Lv w5 wo.heap.size (some ⟨b4, off4, none⟩) pre.length pre := (HLP.out.drewN _).below (hb5.mono hs15)
                  have c05 : w5.cell? ⟨b, off + k * 2, none⟩ = some (.string xn) := (hb5.cell (p := ⟨b, off + k * 2, none⟩) (by simp; omega)).trans c01
                  have c15 : w5.cell? ⟨b, off + k * 2 + 1, none⟩ = some (.string xv) := (hb5.cell (p := ⟨b, off + k * 2 + 1, none⟩) (by simp; omega)).trans c11
                  have ne0 : ∀ X : Obj, (w5.alloc X).cell? ⟨b, off + k * 2, none⟩ = some (.string xn) := fun X => (World.cell?_alloc_lt w5 X ⟨b, off + k * 2, none⟩ hbW).trans c05
                  have ne1 : ∀ X : Obj, (w5.alloc X).cell? ⟨b, off + k * 2 + 1, none⟩ = some (.string xv) := fun X => (World.cell?_alloc_lt w5 X ⟨b, off + k * 2 + 1, none⟩ hbW).trans c15
                  have hA0 : w.heap.size ≤ (w5.alloc (.cells #[.string xn, .string xv] 37)).heap.size := by simp; omega
                  have hA1 : pre.length + 1 ≤ 1000000 := by omega
                  have hA2 : pre.length + 1 + (k - pre.length) ≤ maxLen := by unfold maxLen; omega
                  have hA3 : (pre.length + 1 + (k - pre.length)) * 32 ≤ 140737488355328 := by omega
                  have z0 : (0 : Int) ≤ (pre.length : Int) := by omega
                  have z1 : (pre.length : Int) ≤ (c4 : Int) := by omega
                  have z2 : pre.length ≤ c4 := by omega
                  have z3 : (k : Int) < (n : Int) := by omega
                  have z4 : (0 : Int) ≤ (k : Int) := by omega
                  have HLV5 := Lib.hid hlv5
                  have HLVP := Lib.hid hlvp
                  have HB5 := Lib.hid hbw5
                  clear hown5 hb5 hlv5 hlvp hbw5 hr c01 c11
                  go_region_held3 (fun w' => w'.cell? ⟨b, off + k * 2, none⟩ = some (.string xn) ∧ w'.cell? ⟨b, off + k * 2 + 1, none⟩ = some (.string xv)) (first | go_keep | exact ⟨ne0 _, ne1 _⟩ | exact ⟨s60, s61⟩ | exact ⟨s70, s71⟩) (first | (refine step_append_full (by rfl) (.tmp 91) (.tmp 96) (by rfl) (by rfl) (some ⟨b4, off4, none⟩) pre.length w5.heap.size pre [(xn, xv)] ⟨w5.heap.size, 0, none⟩ 1 1 w.heap.size (by rfl) (by rfl) ((HLVP.out.more hs5).below ((Below.refl _ w5).alloc (Nat.le_refl _) _).drew) (by rfl) (by decide) (two_cells w5 _ _ 37) hA1 hA0 ?_; intro v6 w6 hown6 hg6 hat6; have hb6 : Below w5.heap.size w5 w6 := ((Below.refl _ w5).alloc (Nat.le_refl _) _).drew.grown hg6 (by simp) (fun k hk => by cases hk); have s60 := (hb6.cell (p := ⟨b, off + k * 2, none⟩) hbW).trans c05; have s61 := (hb6.cell (p := ⟨b, off + k * 2 + 1, none⟩) hbW).trans c15; have hs6 := hb6.size; have hlv6 := HLV5.out.below hb6; have hA4 : w.heap.size ≤ w6.heap.size := Nat.le_trans (Nat.le_trans hs hs5) hs6) | (refine step_append_lv (by rfl) (.tmp 97) (.tmp 98) 22 (by rfl) w.heap.size 37 i0 _ 32 Tryd.underlying22 hi hz0 hz1 hz2 rfl v6 (pre.length + 1) (lv (pre ++ [(xn, xv)])) (by rfl) hown6 A5 (k - pre.length) c5 w5.heap.size ((yn, yv) :: post) (by rfl) hlv6 hA2 hA3 hA4 ?_; intro v7 w7 hown7 hg7 hat7; have hb7 : Below w5.heap.size w5 w7 := hb6.grown hg7 hs6 (fun x hx => by rw [hat6] at hx; injection hx with hx; rw [← hx]; simp); have s70 := (hb7.cell (p := ⟨b, off + k * 2, none⟩) hbW).trans c05; have s71 := (hb7.cell (p := ⟨b, off + k * 2 + 1, none⟩) hbW).trans c15))
                  all_goals
                    have HFIN : Hid (w7.ownsRow w.heap.size 37 2 v7 (k + 1) (lv (pre ++ (xn, xv) :: ((yn, yv) :: post))) ∧ Below w.heap.size w w7) := by
                      refine ⟨?_, HB5.out.trans (hb7.mono (Nat.le_trans hs hs5))⟩
                      have e : pre.length + 1 + (k - pre.length) = k + 1 := by omega
                      rw [e, ← lv_append, List.append_assoc] at hown7
                      exact hown7
                    clear hown6 hg6 hat6 hb6 s60 s61 hown7 hg7 hat7 hb7 s70 s71 hlv6
                    go_wp2_with fail
                    go_roundw
                    case rel => exact ⟨k + 1, _, by omega, by go_num, HIN.out, HFIN.out.1, HFIN.out.2⟩
                    case measure => simp [intOf]; omega
          · have hmn : mkL l = none := by
              rw [HMK.out]
              refine foldL_stuck (k := k + 1) ?_
              rw [HF.out]
              unfold stepL
              rw [Option.bind_some, if_neg hok]
            have HM := Lib.hid hmn
            clear hmn
            cases hn1 : nameB xn with
            | false =>
              rw [hn1] at hnm
              go_wp2_with (go_at_call 31; refine hnm.mono ?_; rintro e w2 ⟨rfl, hw2⟩; rw [hw2]; clear hw2 w2)
              go_ret2
              exact rpost_none HM.out hb
            | true =>
              rw [hn1] at hnm
              by_cases hv0 : xv.size = 0
              · obtain rfl := (empty_iff xv).1 hv0
                go_wp2_with (go_at_call 31; refine hnm.mono ?_; rintro e w2 ⟨rfl, hw2⟩; rw [hw2]; clear hw2 w2)
                go_ret2
                exact rpost_none HM.out hb
              · have he := not_empty hv0
                have hv64 : 64 < xv.size := by
                  refine Nat.lt_of_not_le fun hle => hok ?_
                  unfold labOK
                  simp [hn1, hle, Nat.pos_of_ne_zero hv0]
                have d64 : decide (64 < ((xv.size : Nat) : Int)) = true := decide_eq_true (by omega)
                clear hok
                go_wp2_with (go_at_call 31; refine hnm.mono ?_; rintro e w2 ⟨rfl, hw2⟩; rw [hw2]; clear hw2 w2)
                go_ret2
                exact rpost_none HM.out hb
        · obtain rfl : k = n := by omega
          have hall : l.take k = l := by rw [← hln]; exact List.take_length
          rw [hall] at hf
          have hfin : mkL l = some m := by rw [HMK.out, hf]
          have hml : m.length = k := by have := hown.1; rw [lv_len] at this; omega
          go_wp2_with fail
          go_ret2
          refine ⟨u4, by unfold mkE; rw [hfin]; rfl, ?_, hb⟩
          unfold mkR
          rw [hfin]
          show wo.ownsRow w.heap.size 37 2 u4 m.length (lv m)
          rw [hml]; exact hown
    · have hm : mkL l = none := by unfold mkL; rw [if_pos (.inr (by omega))]
      have d0 : (((n : Nat) : Int) == 0) = false := by rw [beq_eq_false_iff_ne]; omega
      have d16 : decide (16 < ((n : Nat) : Int)) = true := decide_eq_true (by omega)
      go_enter Tryd.func13, Tryd.ntmps13
      go_wp2_with fail
      go_ret2
      exact rpost_none hm (Below.refl _ _)
end Go.Proofs.YtlicnadbccjbjaaDoor
