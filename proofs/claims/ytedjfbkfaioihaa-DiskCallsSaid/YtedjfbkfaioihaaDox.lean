/- The step that is told by its number: one of the six. Conditions: as in the calls' own texts. -/
import Derived.Test.YtedjfbkfaioihaaAt
namespace Go.Proofs.Ytedjfbkfaioihaa
open Go.RowKit Go.Shelf Go.Maps

theorem Try.enters66 : Enters Try.prog 66 := enters_of Try.func66 (by kernel_rfl) rfl
set_option maxRecDepth 100000 in
set_option maxHeartbeats 4000000 in
theorem clo66 (D : Nat) (n m : ByteArray) (A : Option Addr) (c : Nat) (b : List Nat) (st : Ds) (φ : Nat → Prop) (w : World) (h : DK w φ D st) (hs : n.size ≤ 1000000000000000) (hst : st.steps ≤ 1000000000) (hl : st.acts.length ≤ 1000000) (hdl : st.dir.length ≤ 1000000) (pd po : Nat) (k : Int) (hd : Arr w pd 23 #[.pointer (some ⟨D, 0, none⟩)]) (ho : Arr w po 48 #[.int .i64 k, .string n, .string m, .slice A b.length c]) :
    Calls Try.prog 66 #[.pointer (some ⟨pd, 0, none⟩), .pointer (some ⟨po, 0, none⟩)] w (DPost w φ D (ans st 0 n m b) (nx st 0 n m b)) := by
  have hc : Calls Try.prog 13 #[.pointer (some ⟨D, 0, none⟩), .string n] w (DPost w φ D (ans st 0 n m b) (nx st 0 n m b)) := create13 D n st φ w h hs hst hl hdl
  have g0 : w.cell? ⟨pd, 0, none⟩ = some (.pointer (some ⟨D, 0, none⟩)) := hd.at_ rfl
  have g1 : w.cell? ⟨po, 1, none⟩ = some (.string n) := ho.at_ rfl
  have g2 : w.cell? ⟨po, 2, none⟩ = some (.string m) := ho.at_ rfl
  have g3 : w.cell? ⟨po, 3, none⟩ = some (.slice A b.length c) := ho.at_ rfl
  clear h hs hst hl hdl hd ho
  go_enter Try.func66, Try.ntmps66
  go_wp2_with fail
  refine hc.mono ?_
  clear hc
  rintro e w1 ⟨rfl, hp⟩
  have HP := Lib.hid hp
  clear hp
  go_wp2_with fail
  go_ret
  exact ⟨rfl, HP.out⟩
theorem Try.enters67 : Enters Try.prog 67 := enters_of Try.func67 (by kernel_rfl) rfl
set_option maxRecDepth 100000 in
set_option maxHeartbeats 4000000 in
theorem clo67 (D : Nat) (n m : ByteArray) (A : Option Addr) (c : Nat) (b : List Nat) (st : Ds) (φ : Nat → Prop) (w : World) (h : DK w φ D st) (hr : Rd w w.heap.size A b.length (b.map bv)) (hblt : ∀ y ∈ b, y < 256) (hbl : b.length ≤ 1000000) (hs : n.size ≤ 1000000000000000) (hst : st.steps ≤ 1000000000) (hu : usedL st.fs st.dir ≤ 1000000000) (hb : ∀ x ∈ st.fs, x.b.length + b.length ≤ 1000000000) (pd po : Nat) (k : Int) (hd : Arr w pd 23 #[.pointer (some ⟨D, 0, none⟩)]) (ho : Arr w po 48 #[.int .i64 k, .string n, .string m, .slice A b.length c]) :
    Calls Try.prog 67 #[.pointer (some ⟨pd, 0, none⟩), .pointer (some ⟨po, 0, none⟩)] w (DPost w φ D (ans st 1 n m b) (nx st 1 n m b)) := by
  have hc : Calls Try.prog 18 #[.pointer (some ⟨D, 0, none⟩), .string n, .slice A b.length c] w (DPost w φ D (ans st 1 n m b) (nx st 1 n m b)) := append18 D n A c w.heap.size b st φ w h hr (Nat.le_refl _) hblt (by omega) hs hst hu hb
  have g0 : w.cell? ⟨pd, 0, none⟩ = some (.pointer (some ⟨D, 0, none⟩)) := hd.at_ rfl
  have g1 : w.cell? ⟨po, 1, none⟩ = some (.string n) := ho.at_ rfl
  have g2 : w.cell? ⟨po, 2, none⟩ = some (.string m) := ho.at_ rfl
  have g3 : w.cell? ⟨po, 3, none⟩ = some (.slice A b.length c) := ho.at_ rfl
  clear h hr hblt hbl hs hst hu hb hd ho
  go_enter Try.func67, Try.ntmps67
  go_wp2_with fail
  refine hc.mono ?_
  clear hc
  rintro e w1 ⟨rfl, hp⟩
  have HP := Lib.hid hp
  clear hp
  go_wp2_with fail
  go_ret
  exact ⟨rfl, HP.out⟩
theorem Try.enters68 : Enters Try.prog 68 := enters_of Try.func68 (by kernel_rfl) rfl
set_option maxRecDepth 100000 in
set_option maxHeartbeats 4000000 in
theorem clo68 (D : Nat) (n m : ByteArray) (A : Option Addr) (c : Nat) (b : List Nat) (st : Ds) (φ : Nat → Prop) (w : World) (h : DK w φ D st) (hs : n.size ≤ 1000000000000000) (hst : st.steps ≤ 1000000000) (hb : ∀ x ∈ st.fs, x.b.length + b.length ≤ 1000000000) (pd po : Nat) (k : Int) (hd : Arr w pd 23 #[.pointer (some ⟨D, 0, none⟩)]) (ho : Arr w po 48 #[.int .i64 k, .string n, .string m, .slice A b.length c]) :
    Calls Try.prog 68 #[.pointer (some ⟨pd, 0, none⟩), .pointer (some ⟨po, 0, none⟩)] w (DPost w φ D (ans st 2 n m b) (nx st 2 n m b)) := by
  have hc : Calls Try.prog 15 #[.pointer (some ⟨D, 0, none⟩), .string n] w (DPost w φ D (ans st 2 n m b) (nx st 2 n m b)) := sync15 D n st φ w h hs hst (fun x hx => by have := hb x hx; omega)
  have g0 : w.cell? ⟨pd, 0, none⟩ = some (.pointer (some ⟨D, 0, none⟩)) := hd.at_ rfl
  have g1 : w.cell? ⟨po, 1, none⟩ = some (.string n) := ho.at_ rfl
  have g2 : w.cell? ⟨po, 2, none⟩ = some (.string m) := ho.at_ rfl
  have g3 : w.cell? ⟨po, 3, none⟩ = some (.slice A b.length c) := ho.at_ rfl
  clear h hs hst hb hd ho
  go_enter Try.func68, Try.ntmps68
  go_wp2_with fail
  refine hc.mono ?_
  clear hc
  rintro e w1 ⟨rfl, hp⟩
  have HP := Lib.hid hp
  clear hp
  go_wp2_with fail
  go_ret
  exact ⟨rfl, HP.out⟩
theorem Try.enters69 : Enters Try.prog 69 := enters_of Try.func69 (by kernel_rfl) rfl
set_option maxRecDepth 100000 in
set_option maxHeartbeats 4000000 in
theorem clo69 (D : Nat) (n m : ByteArray) (A : Option Addr) (c : Nat) (b : List Nat) (st : Ds) (φ : Nat → Prop) (w : World) (h : DK w φ D st) (hs : n.size ≤ 1000000000000000) (hsm : m.size ≤ 1000000000000000) (hst : st.steps ≤ 1000000000) (hl : st.acts.length ≤ 1000000) (hdl : st.dir.length ≤ 1000000) (pd po : Nat) (k : Int) (hd : Arr w pd 23 #[.pointer (some ⟨D, 0, none⟩)]) (ho : Arr w po 48 #[.int .i64 k, .string n, .string m, .slice A b.length c]) :
    Calls Try.prog 69 #[.pointer (some ⟨pd, 0, none⟩), .pointer (some ⟨po, 0, none⟩)] w (DPost w φ D (ans st 3 n m b) (nx st 3 n m b)) := by
  have hc : Calls Try.prog 28 #[.pointer (some ⟨D, 0, none⟩), .string n, .string m] w (DPost w φ D (ans st 3 n m b) (nx st 3 n m b)) := rename28 D n m st φ w h hs hsm hst hl hdl
  have g0 : w.cell? ⟨pd, 0, none⟩ = some (.pointer (some ⟨D, 0, none⟩)) := hd.at_ rfl
  have g1 : w.cell? ⟨po, 1, none⟩ = some (.string n) := ho.at_ rfl
  have g2 : w.cell? ⟨po, 2, none⟩ = some (.string m) := ho.at_ rfl
  have g3 : w.cell? ⟨po, 3, none⟩ = some (.slice A b.length c) := ho.at_ rfl
  clear h hs hsm hst hl hdl hd ho
  go_enter Try.func69, Try.ntmps69
  go_wp2_with fail
  refine hc.mono ?_
  clear hc
  rintro e w1 ⟨rfl, hp⟩
  have HP := Lib.hid hp
  clear hp
  go_wp2_with fail
  go_ret
  exact ⟨rfl, HP.out⟩
theorem Try.enters70 : Enters Try.prog 70 := enters_of Try.func70 (by kernel_rfl) rfl
set_option maxRecDepth 100000 in
set_option maxHeartbeats 4000000 in
theorem clo70 (D : Nat) (n m : ByteArray) (A : Option Addr) (c : Nat) (b : List Nat) (st : Ds) (φ : Nat → Prop) (w : World) (h : DK w φ D st) (hs : n.size ≤ 1000000000000000) (hst : st.steps ≤ 1000000000) (hl : st.acts.length ≤ 1000000) (hdl : st.dir.length ≤ 1000000) (pd po : Nat) (k : Int) (hd : Arr w pd 23 #[.pointer (some ⟨D, 0, none⟩)]) (ho : Arr w po 48 #[.int .i64 k, .string n, .string m, .slice A b.length c]) :
    Calls Try.prog 70 #[.pointer (some ⟨pd, 0, none⟩), .pointer (some ⟨po, 0, none⟩)] w (DPost w φ D (ans st 4 n m b) (nx st 4 n m b)) := by
  have hc : Calls Try.prog 21 #[.pointer (some ⟨D, 0, none⟩), .string n] w (DPost w φ D (ans st 4 n m b) (nx st 4 n m b)) := remove21 D n st φ w h hs hst hl hdl
  have g0 : w.cell? ⟨pd, 0, none⟩ = some (.pointer (some ⟨D, 0, none⟩)) := hd.at_ rfl
  have g1 : w.cell? ⟨po, 1, none⟩ = some (.string n) := ho.at_ rfl
  have g2 : w.cell? ⟨po, 2, none⟩ = some (.string m) := ho.at_ rfl
  have g3 : w.cell? ⟨po, 3, none⟩ = some (.slice A b.length c) := ho.at_ rfl
  clear h hs hst hl hdl hd ho
  go_enter Try.func70, Try.ntmps70
  go_wp2_with fail
  refine hc.mono ?_
  clear hc
  rintro e w1 ⟨rfl, hp⟩
  have HP := Lib.hid hp
  clear hp
  go_wp2_with fail
  go_ret
  exact ⟨rfl, HP.out⟩
/-- The step that is told. -/
def opE (st : Ds) (k : Int) (n m : ByteArray) (b : List Nat) : Int := if 0 ≤ k ∧ k ≤ 5 then ans st k.toNat n m b else 1
def opS (st : Ds) (k : Int) (n m : ByteArray) (b : List Nat) : Ds := if 0 ≤ k ∧ k ≤ 5 then nx st k.toNat n m b else st
theorem op_nat {st : Ds} {i : Nat} {n m : ByteArray} {b : List Nat} (hi : i ≤ 5) : opE st (i : Int) n m b = ans st i n m b ∧ opS st (i : Int) n m b = nx st i n m b := by
  unfold opE opS
  rw [if_pos (by omega), if_pos (by omega), Int.toNat_natCast]
  exact ⟨rfl, rfl⟩
theorem op_bad {st : Ds} {k : Int} {n m : ByteArray} {b : List Nat} (hk : k < 0 ∨ 5 < k) : opE st k n m b = 1 ∧ opS st k n m b = st := by
  unfold opE opS
  rw [if_neg (by omega), if_neg (by omega)]
  exact ⟨rfl, rfl⟩
set_option maxRecDepth 100000 in
set_option maxHeartbeats 4000000 in
theorem do29_0 (D : Nat) (n m : ByteArray) (A : Option Addr) (c : Nat) (b : List Nat) (st : Ds) (φ : Nat → Prop) (w : World) (h : DK w φ D st) (hs : n.size ≤ 1000000000000000) (hst : st.steps ≤ 1000000000) (hl : st.acts.length ≤ 1000000) (hdl : st.dir.length ≤ 1000000) :
    Calls Try.prog 29 #[.pointer (some ⟨D, 0, none⟩), .agg #[.int .i64 0, .string n, .string m, .slice A b.length c]] w (DPost w φ D (ans st 0 n m b) (nx st 0 n m b)) := by
  obtain ⟨W0, hW0⟩ : ∃ W0, W0 = ((w.alloc (.cells #[.pointer (some ⟨D, 0, none⟩)] 23)).alloc (.cells #[.int .i64 0, .string n, .string m, .slice A b.length c] 48)).alloc (.cells #[.func (.func 66) #[] #[.pointer (some ⟨w.heap.size, 0, none⟩), .pointer (some ⟨w.heap.size + 1, 0, none⟩)], .func (.func 67) #[] #[.pointer (some ⟨w.heap.size, 0, none⟩), .pointer (some ⟨w.heap.size + 1, 0, none⟩)], .func (.func 68) #[] #[.pointer (some ⟨w.heap.size, 0, none⟩), .pointer (some ⟨w.heap.size + 1, 0, none⟩)], .func (.func 69) #[] #[.pointer (some ⟨w.heap.size, 0, none⟩), .pointer (some ⟨w.heap.size + 1, 0, none⟩)], .func (.func 70) #[] #[.pointer (some ⟨w.heap.size, 0, none⟩), .pointer (some ⟨w.heap.size + 1, 0, none⟩)], .func (.func 22) #[.pointer (some ⟨D, 0, none⟩)] #[]] 38) := ⟨_, rfl⟩
  have hb0 : Below w.heap.size w W0 := by rw [hW0]; exact (((Below.refl _ w).alloc (Nat.le_refl _) _).alloc (by simp) _).alloc (by simp; omega) _
  have hd0 : Arr W0 w.heap.size 23 #[.pointer (some ⟨D, 0, none⟩)] := by rw [hW0]; exact ((Arr.new w 23 _).alloc _).alloc _
  have ho0 : Arr W0 (w.heap.size + 1) 48 #[.int .i64 0, .string n, .string m, .slice A b.length c] := by
    have := (Arr.new (w.alloc (.cells #[.pointer (some ⟨D, 0, none⟩)] 23)) 48 #[.int .i64 0, .string n, .string m, .slice A b.length c]).alloc (.cells #[.func (.func 66) #[] #[.pointer (some ⟨w.heap.size, 0, none⟩), .pointer (some ⟨w.heap.size + 1, 0, none⟩)], .func (.func 67) #[] #[.pointer (some ⟨w.heap.size, 0, none⟩), .pointer (some ⟨w.heap.size + 1, 0, none⟩)], .func (.func 68) #[] #[.pointer (some ⟨w.heap.size, 0, none⟩), .pointer (some ⟨w.heap.size + 1, 0, none⟩)], .func (.func 69) #[] #[.pointer (some ⟨w.heap.size, 0, none⟩), .pointer (some ⟨w.heap.size + 1, 0, none⟩)], .func (.func 70) #[] #[.pointer (some ⟨w.heap.size, 0, none⟩), .pointer (some ⟨w.heap.size + 1, 0, none⟩)], .func (.func 22) #[.pointer (some ⟨D, 0, none⟩)] #[]] 38)
    rw [World.size_alloc, ← hW0] at this
    exact this
  have hK := h.below hb0 (Nat.le_refl _)
  have hc : Hid (Calls Try.prog 66 #[.pointer (some ⟨w.heap.size, 0, none⟩), .pointer (some ⟨w.heap.size + 1, 0, none⟩)] W0 (DPost W0 φ D (ans st 0 n m b) (nx st 0 n m b))) := Lib.hid (clo66 D n m A c b st φ W0 hK hs hst hl hdl _ _ 0 hd0 ho0)
  have HX := Lib.hid (And.intro hb0 h)
  have hen := Try.enters66
  clear hb0 hd0 ho0 hK h hs hst hl hdl
  go_enter Try.func29, Try.ntmps29
  go_wp2_with fail
  rw [← hW0]
  refine hc.out.mono ?_
  clear hc
  intro e w1 hp
  have HF := Lib.hid (DPost.late HX.out.2 HX.out.1 hp)
  obtain ⟨rfl, _, _⟩ := hp
  go_wp2_with fail
  go_ret
  exact HF.out
set_option maxRecDepth 100000 in
set_option maxHeartbeats 4000000 in
theorem do29_1 (D : Nat) (n m : ByteArray) (A : Option Addr) (c : Nat) (b : List Nat) (st : Ds) (φ : Nat → Prop) (w : World) (h : DK w φ D st) (hr : Rd w w.heap.size A b.length (b.map bv)) (hblt : ∀ y ∈ b, y < 256) (hbl : b.length ≤ 1000000) (hs : n.size ≤ 1000000000000000) (hst : st.steps ≤ 1000000000) (hu : usedL st.fs st.dir ≤ 1000000000) (hb : ∀ x ∈ st.fs, x.b.length + b.length ≤ 1000000000) :
    Calls Try.prog 29 #[.pointer (some ⟨D, 0, none⟩), .agg #[.int .i64 1, .string n, .string m, .slice A b.length c]] w (DPost w φ D (ans st 1 n m b) (nx st 1 n m b)) := by
  obtain ⟨W0, hW0⟩ : ∃ W0, W0 = ((w.alloc (.cells #[.pointer (some ⟨D, 0, none⟩)] 23)).alloc (.cells #[.int .i64 1, .string n, .string m, .slice A b.length c] 48)).alloc (.cells #[.func (.func 66) #[] #[.pointer (some ⟨w.heap.size, 0, none⟩), .pointer (some ⟨w.heap.size + 1, 0, none⟩)], .func (.func 67) #[] #[.pointer (some ⟨w.heap.size, 0, none⟩), .pointer (some ⟨w.heap.size + 1, 0, none⟩)], .func (.func 68) #[] #[.pointer (some ⟨w.heap.size, 0, none⟩), .pointer (some ⟨w.heap.size + 1, 0, none⟩)], .func (.func 69) #[] #[.pointer (some ⟨w.heap.size, 0, none⟩), .pointer (some ⟨w.heap.size + 1, 0, none⟩)], .func (.func 70) #[] #[.pointer (some ⟨w.heap.size, 0, none⟩), .pointer (some ⟨w.heap.size + 1, 0, none⟩)], .func (.func 22) #[.pointer (some ⟨D, 0, none⟩)] #[]] 38) := ⟨_, rfl⟩
  have hb0 : Below w.heap.size w W0 := by rw [hW0]; exact (((Below.refl _ w).alloc (Nat.le_refl _) _).alloc (by simp) _).alloc (by simp; omega) _
  have hd0 : Arr W0 w.heap.size 23 #[.pointer (some ⟨D, 0, none⟩)] := by rw [hW0]; exact ((Arr.new w 23 _).alloc _).alloc _
  have ho0 : Arr W0 (w.heap.size + 1) 48 #[.int .i64 1, .string n, .string m, .slice A b.length c] := by
    have := (Arr.new (w.alloc (.cells #[.pointer (some ⟨D, 0, none⟩)] 23)) 48 #[.int .i64 1, .string n, .string m, .slice A b.length c]).alloc (.cells #[.func (.func 66) #[] #[.pointer (some ⟨w.heap.size, 0, none⟩), .pointer (some ⟨w.heap.size + 1, 0, none⟩)], .func (.func 67) #[] #[.pointer (some ⟨w.heap.size, 0, none⟩), .pointer (some ⟨w.heap.size + 1, 0, none⟩)], .func (.func 68) #[] #[.pointer (some ⟨w.heap.size, 0, none⟩), .pointer (some ⟨w.heap.size + 1, 0, none⟩)], .func (.func 69) #[] #[.pointer (some ⟨w.heap.size, 0, none⟩), .pointer (some ⟨w.heap.size + 1, 0, none⟩)], .func (.func 70) #[] #[.pointer (some ⟨w.heap.size, 0, none⟩), .pointer (some ⟨w.heap.size + 1, 0, none⟩)], .func (.func 22) #[.pointer (some ⟨D, 0, none⟩)] #[]] 38)
    rw [World.size_alloc, ← hW0] at this
    exact this
  have hK := h.below hb0 (Nat.le_refl _)
  have hR := (hr.below hb0).more hb0.size
  have hc : Hid (Calls Try.prog 67 #[.pointer (some ⟨w.heap.size, 0, none⟩), .pointer (some ⟨w.heap.size + 1, 0, none⟩)] W0 (DPost W0 φ D (ans st 1 n m b) (nx st 1 n m b))) := Lib.hid (clo67 D n m A c b st φ W0 hK hR hblt hbl hs hst hu hb _ _ 1 hd0 ho0)
  have HX := Lib.hid (And.intro hb0 h)
  have hen := Try.enters67
  clear hb0 hd0 ho0 hK hR h hr hblt hbl hs hst hu hb
  go_enter Try.func29, Try.ntmps29
  go_wp2_with fail
  rw [← hW0]
  refine hc.out.mono ?_
  clear hc
  intro e w1 hp
  have HF := Lib.hid (DPost.late HX.out.2 HX.out.1 hp)
  obtain ⟨rfl, _, _⟩ := hp
  go_wp2_with fail
  go_ret
  exact HF.out
set_option maxRecDepth 100000 in
set_option maxHeartbeats 4000000 in
theorem do29_2 (D : Nat) (n m : ByteArray) (A : Option Addr) (c : Nat) (b : List Nat) (st : Ds) (φ : Nat → Prop) (w : World) (h : DK w φ D st) (hs : n.size ≤ 1000000000000000) (hst : st.steps ≤ 1000000000) (hb : ∀ x ∈ st.fs, x.b.length + b.length ≤ 1000000000) :
    Calls Try.prog 29 #[.pointer (some ⟨D, 0, none⟩), .agg #[.int .i64 2, .string n, .string m, .slice A b.length c]] w (DPost w φ D (ans st 2 n m b) (nx st 2 n m b)) := by
  obtain ⟨W0, hW0⟩ : ∃ W0, W0 = ((w.alloc (.cells #[.pointer (some ⟨D, 0, none⟩)] 23)).alloc (.cells #[.int .i64 2, .string n, .string m, .slice A b.length c] 48)).alloc (.cells #[.func (.func 66) #[] #[.pointer (some ⟨w.heap.size, 0, none⟩), .pointer (some ⟨w.heap.size + 1, 0, none⟩)], .func (.func 67) #[] #[.pointer (some ⟨w.heap.size, 0, none⟩), .pointer (some ⟨w.heap.size + 1, 0, none⟩)], .func (.func 68) #[] #[.pointer (some ⟨w.heap.size, 0, none⟩), .pointer (some ⟨w.heap.size + 1, 0, none⟩)], .func (.func 69) #[] #[.pointer (some ⟨w.heap.size, 0, none⟩), .pointer (some ⟨w.heap.size + 1, 0, none⟩)], .func (.func 70) #[] #[.pointer (some ⟨w.heap.size, 0, none⟩), .pointer (some ⟨w.heap.size + 1, 0, none⟩)], .func (.func 22) #[.pointer (some ⟨D, 0, none⟩)] #[]] 38) := ⟨_, rfl⟩
  have hb0 : Below w.heap.size w W0 := by rw [hW0]; exact (((Below.refl _ w).alloc (Nat.le_refl _) _).alloc (by simp) _).alloc (by simp; omega) _
  have hd0 : Arr W0 w.heap.size 23 #[.pointer (some ⟨D, 0, none⟩)] := by rw [hW0]; exact ((Arr.new w 23 _).alloc _).alloc _
  have ho0 : Arr W0 (w.heap.size + 1) 48 #[.int .i64 2, .string n, .string m, .slice A b.length c] := by
    have := (Arr.new (w.alloc (.cells #[.pointer (some ⟨D, 0, none⟩)] 23)) 48 #[.int .i64 2, .string n, .string m, .slice A b.length c]).alloc (.cells #[.func (.func 66) #[] #[.pointer (some ⟨w.heap.size, 0, none⟩), .pointer (some ⟨w.heap.size + 1, 0, none⟩)], .func (.func 67) #[] #[.pointer (some ⟨w.heap.size, 0, none⟩), .pointer (some ⟨w.heap.size + 1, 0, none⟩)], .func (.func 68) #[] #[.pointer (some ⟨w.heap.size, 0, none⟩), .pointer (some ⟨w.heap.size + 1, 0, none⟩)], .func (.func 69) #[] #[.pointer (some ⟨w.heap.size, 0, none⟩), .pointer (some ⟨w.heap.size + 1, 0, none⟩)], .func (.func 70) #[] #[.pointer (some ⟨w.heap.size, 0, none⟩), .pointer (some ⟨w.heap.size + 1, 0, none⟩)], .func (.func 22) #[.pointer (some ⟨D, 0, none⟩)] #[]] 38)
    rw [World.size_alloc, ← hW0] at this
    exact this
  have hK := h.below hb0 (Nat.le_refl _)
  have hc : Hid (Calls Try.prog 68 #[.pointer (some ⟨w.heap.size, 0, none⟩), .pointer (some ⟨w.heap.size + 1, 0, none⟩)] W0 (DPost W0 φ D (ans st 2 n m b) (nx st 2 n m b))) := Lib.hid (clo68 D n m A c b st φ W0 hK hs hst hb _ _ 2 hd0 ho0)
  have HX := Lib.hid (And.intro hb0 h)
  have hen := Try.enters68
  clear hb0 hd0 ho0 hK h hs hst hb
  go_enter Try.func29, Try.ntmps29
  go_wp2_with fail
  rw [← hW0]
  refine hc.out.mono ?_
  clear hc
  intro e w1 hp
  have HF := Lib.hid (DPost.late HX.out.2 HX.out.1 hp)
  obtain ⟨rfl, _, _⟩ := hp
  go_wp2_with fail
  go_ret
  exact HF.out
set_option maxRecDepth 100000 in
set_option maxHeartbeats 4000000 in
theorem do29_3 (D : Nat) (n m : ByteArray) (A : Option Addr) (c : Nat) (b : List Nat) (st : Ds) (φ : Nat → Prop) (w : World) (h : DK w φ D st) (hs : n.size ≤ 1000000000000000) (hsm : m.size ≤ 1000000000000000) (hst : st.steps ≤ 1000000000) (hl : st.acts.length ≤ 1000000) (hdl : st.dir.length ≤ 1000000) :
    Calls Try.prog 29 #[.pointer (some ⟨D, 0, none⟩), .agg #[.int .i64 3, .string n, .string m, .slice A b.length c]] w (DPost w φ D (ans st 3 n m b) (nx st 3 n m b)) := by
  obtain ⟨W0, hW0⟩ : ∃ W0, W0 = ((w.alloc (.cells #[.pointer (some ⟨D, 0, none⟩)] 23)).alloc (.cells #[.int .i64 3, .string n, .string m, .slice A b.length c] 48)).alloc (.cells #[.func (.func 66) #[] #[.pointer (some ⟨w.heap.size, 0, none⟩), .pointer (some ⟨w.heap.size + 1, 0, none⟩)], .func (.func 67) #[] #[.pointer (some ⟨w.heap.size, 0, none⟩), .pointer (some ⟨w.heap.size + 1, 0, none⟩)], .func (.func 68) #[] #[.pointer (some ⟨w.heap.size, 0, none⟩), .pointer (some ⟨w.heap.size + 1, 0, none⟩)], .func (.func 69) #[] #[.pointer (some ⟨w.heap.size, 0, none⟩), .pointer (some ⟨w.heap.size + 1, 0, none⟩)], .func (.func 70) #[] #[.pointer (some ⟨w.heap.size, 0, none⟩), .pointer (some ⟨w.heap.size + 1, 0, none⟩)], .func (.func 22) #[.pointer (some ⟨D, 0, none⟩)] #[]] 38) := ⟨_, rfl⟩
  have hb0 : Below w.heap.size w W0 := by rw [hW0]; exact (((Below.refl _ w).alloc (Nat.le_refl _) _).alloc (by simp) _).alloc (by simp; omega) _
  have hd0 : Arr W0 w.heap.size 23 #[.pointer (some ⟨D, 0, none⟩)] := by rw [hW0]; exact ((Arr.new w 23 _).alloc _).alloc _
  have ho0 : Arr W0 (w.heap.size + 1) 48 #[.int .i64 3, .string n, .string m, .slice A b.length c] := by
    have := (Arr.new (w.alloc (.cells #[.pointer (some ⟨D, 0, none⟩)] 23)) 48 #[.int .i64 3, .string n, .string m, .slice A b.length c]).alloc (.cells #[.func (.func 66) #[] #[.pointer (some ⟨w.heap.size, 0, none⟩), .pointer (some ⟨w.heap.size + 1, 0, none⟩)], .func (.func 67) #[] #[.pointer (some ⟨w.heap.size, 0, none⟩), .pointer (some ⟨w.heap.size + 1, 0, none⟩)], .func (.func 68) #[] #[.pointer (some ⟨w.heap.size, 0, none⟩), .pointer (some ⟨w.heap.size + 1, 0, none⟩)], .func (.func 69) #[] #[.pointer (some ⟨w.heap.size, 0, none⟩), .pointer (some ⟨w.heap.size + 1, 0, none⟩)], .func (.func 70) #[] #[.pointer (some ⟨w.heap.size, 0, none⟩), .pointer (some ⟨w.heap.size + 1, 0, none⟩)], .func (.func 22) #[.pointer (some ⟨D, 0, none⟩)] #[]] 38)
    rw [World.size_alloc, ← hW0] at this
    exact this
  have hK := h.below hb0 (Nat.le_refl _)
  have hc : Hid (Calls Try.prog 69 #[.pointer (some ⟨w.heap.size, 0, none⟩), .pointer (some ⟨w.heap.size + 1, 0, none⟩)] W0 (DPost W0 φ D (ans st 3 n m b) (nx st 3 n m b))) := Lib.hid (clo69 D n m A c b st φ W0 hK hs hsm hst hl hdl _ _ 3 hd0 ho0)
  have HX := Lib.hid (And.intro hb0 h)
  have hen := Try.enters69
  clear hb0 hd0 ho0 hK h hs hsm hst hl hdl
  go_enter Try.func29, Try.ntmps29
  go_wp2_with fail
  rw [← hW0]
  refine hc.out.mono ?_
  clear hc
  intro e w1 hp
  have HF := Lib.hid (DPost.late HX.out.2 HX.out.1 hp)
  obtain ⟨rfl, _, _⟩ := hp
  go_wp2_with fail
  go_ret
  exact HF.out
set_option maxRecDepth 100000 in
set_option maxHeartbeats 4000000 in
theorem do29_4 (D : Nat) (n m : ByteArray) (A : Option Addr) (c : Nat) (b : List Nat) (st : Ds) (φ : Nat → Prop) (w : World) (h : DK w φ D st) (hs : n.size ≤ 1000000000000000) (hst : st.steps ≤ 1000000000) (hl : st.acts.length ≤ 1000000) (hdl : st.dir.length ≤ 1000000) :
    Calls Try.prog 29 #[.pointer (some ⟨D, 0, none⟩), .agg #[.int .i64 4, .string n, .string m, .slice A b.length c]] w (DPost w φ D (ans st 4 n m b) (nx st 4 n m b)) := by
  obtain ⟨W0, hW0⟩ : ∃ W0, W0 = ((w.alloc (.cells #[.pointer (some ⟨D, 0, none⟩)] 23)).alloc (.cells #[.int .i64 4, .string n, .string m, .slice A b.length c] 48)).alloc (.cells #[.func (.func 66) #[] #[.pointer (some ⟨w.heap.size, 0, none⟩), .pointer (some ⟨w.heap.size + 1, 0, none⟩)], .func (.func 67) #[] #[.pointer (some ⟨w.heap.size, 0, none⟩), .pointer (some ⟨w.heap.size + 1, 0, none⟩)], .func (.func 68) #[] #[.pointer (some ⟨w.heap.size, 0, none⟩), .pointer (some ⟨w.heap.size + 1, 0, none⟩)], .func (.func 69) #[] #[.pointer (some ⟨w.heap.size, 0, none⟩), .pointer (some ⟨w.heap.size + 1, 0, none⟩)], .func (.func 70) #[] #[.pointer (some ⟨w.heap.size, 0, none⟩), .pointer (some ⟨w.heap.size + 1, 0, none⟩)], .func (.func 22) #[.pointer (some ⟨D, 0, none⟩)] #[]] 38) := ⟨_, rfl⟩
  have hb0 : Below w.heap.size w W0 := by rw [hW0]; exact (((Below.refl _ w).alloc (Nat.le_refl _) _).alloc (by simp) _).alloc (by simp; omega) _
  have hd0 : Arr W0 w.heap.size 23 #[.pointer (some ⟨D, 0, none⟩)] := by rw [hW0]; exact ((Arr.new w 23 _).alloc _).alloc _
  have ho0 : Arr W0 (w.heap.size + 1) 48 #[.int .i64 4, .string n, .string m, .slice A b.length c] := by
    have := (Arr.new (w.alloc (.cells #[.pointer (some ⟨D, 0, none⟩)] 23)) 48 #[.int .i64 4, .string n, .string m, .slice A b.length c]).alloc (.cells #[.func (.func 66) #[] #[.pointer (some ⟨w.heap.size, 0, none⟩), .pointer (some ⟨w.heap.size + 1, 0, none⟩)], .func (.func 67) #[] #[.pointer (some ⟨w.heap.size, 0, none⟩), .pointer (some ⟨w.heap.size + 1, 0, none⟩)], .func (.func 68) #[] #[.pointer (some ⟨w.heap.size, 0, none⟩), .pointer (some ⟨w.heap.size + 1, 0, none⟩)], .func (.func 69) #[] #[.pointer (some ⟨w.heap.size, 0, none⟩), .pointer (some ⟨w.heap.size + 1, 0, none⟩)], .func (.func 70) #[] #[.pointer (some ⟨w.heap.size, 0, none⟩), .pointer (some ⟨w.heap.size + 1, 0, none⟩)], .func (.func 22) #[.pointer (some ⟨D, 0, none⟩)] #[]] 38)
    rw [World.size_alloc, ← hW0] at this
    exact this
  have hK := h.below hb0 (Nat.le_refl _)
  have hc : Hid (Calls Try.prog 70 #[.pointer (some ⟨w.heap.size, 0, none⟩), .pointer (some ⟨w.heap.size + 1, 0, none⟩)] W0 (DPost W0 φ D (ans st 4 n m b) (nx st 4 n m b))) := Lib.hid (clo70 D n m A c b st φ W0 hK hs hst hl hdl _ _ 4 hd0 ho0)
  have HX := Lib.hid (And.intro hb0 h)
  have hen := Try.enters70
  clear hb0 hd0 ho0 hK h hs hst hl hdl
  go_enter Try.func29, Try.ntmps29
  go_wp2_with fail
  rw [← hW0]
  refine hc.out.mono ?_
  clear hc
  intro e w1 hp
  have HF := Lib.hid (DPost.late HX.out.2 HX.out.1 hp)
  obtain ⟨rfl, _, _⟩ := hp
  go_wp2_with fail
  go_ret
  exact HF.out
set_option maxRecDepth 100000 in
set_option maxHeartbeats 4000000 in
theorem do29_5 (D : Nat) (n m : ByteArray) (A : Option Addr) (c : Nat) (b : List Nat) (st : Ds) (φ : Nat → Prop) (w : World) (h : DK w φ D st) (hst : st.steps ≤ 1000000000) :
    Calls Try.prog 29 #[.pointer (some ⟨D, 0, none⟩), .agg #[.int .i64 5, .string n, .string m, .slice A b.length c]] w (DPost w φ D (ans st 5 n m b) (nx st 5 n m b)) := by
  obtain ⟨W0, hW0⟩ : ∃ W0, W0 = ((w.alloc (.cells #[.pointer (some ⟨D, 0, none⟩)] 23)).alloc (.cells #[.int .i64 5, .string n, .string m, .slice A b.length c] 48)).alloc (.cells #[.func (.func 66) #[] #[.pointer (some ⟨w.heap.size, 0, none⟩), .pointer (some ⟨w.heap.size + 1, 0, none⟩)], .func (.func 67) #[] #[.pointer (some ⟨w.heap.size, 0, none⟩), .pointer (some ⟨w.heap.size + 1, 0, none⟩)], .func (.func 68) #[] #[.pointer (some ⟨w.heap.size, 0, none⟩), .pointer (some ⟨w.heap.size + 1, 0, none⟩)], .func (.func 69) #[] #[.pointer (some ⟨w.heap.size, 0, none⟩), .pointer (some ⟨w.heap.size + 1, 0, none⟩)], .func (.func 70) #[] #[.pointer (some ⟨w.heap.size, 0, none⟩), .pointer (some ⟨w.heap.size + 1, 0, none⟩)], .func (.func 22) #[.pointer (some ⟨D, 0, none⟩)] #[]] 38) := ⟨_, rfl⟩
  have hb0 : Below w.heap.size w W0 := by rw [hW0]; exact (((Below.refl _ w).alloc (Nat.le_refl _) _).alloc (by simp) _).alloc (by simp; omega) _
  have hd0 : Arr W0 w.heap.size 23 #[.pointer (some ⟨D, 0, none⟩)] := by rw [hW0]; exact ((Arr.new w 23 _).alloc _).alloc _
  have ho0 : Arr W0 (w.heap.size + 1) 48 #[.int .i64 5, .string n, .string m, .slice A b.length c] := by
    have := (Arr.new (w.alloc (.cells #[.pointer (some ⟨D, 0, none⟩)] 23)) 48 #[.int .i64 5, .string n, .string m, .slice A b.length c]).alloc (.cells #[.func (.func 66) #[] #[.pointer (some ⟨w.heap.size, 0, none⟩), .pointer (some ⟨w.heap.size + 1, 0, none⟩)], .func (.func 67) #[] #[.pointer (some ⟨w.heap.size, 0, none⟩), .pointer (some ⟨w.heap.size + 1, 0, none⟩)], .func (.func 68) #[] #[.pointer (some ⟨w.heap.size, 0, none⟩), .pointer (some ⟨w.heap.size + 1, 0, none⟩)], .func (.func 69) #[] #[.pointer (some ⟨w.heap.size, 0, none⟩), .pointer (some ⟨w.heap.size + 1, 0, none⟩)], .func (.func 70) #[] #[.pointer (some ⟨w.heap.size, 0, none⟩), .pointer (some ⟨w.heap.size + 1, 0, none⟩)], .func (.func 22) #[.pointer (some ⟨D, 0, none⟩)] #[]] 38)
    rw [World.size_alloc, ← hW0] at this
    exact this
  have hK := h.below hb0 (Nat.le_refl _)
  have hc : Hid (Calls Try.prog 22 #[.pointer (some ⟨D, 0, none⟩)] W0 (DPost W0 φ D (ans st 5 n m b) (nx st 5 n m b))) := Lib.hid (sdir22 D st φ W0 hK hst)
  have HX := Lib.hid (And.intro hb0 h)
  clear hb0 hK h hst
  go_enter Try.func29, Try.ntmps29
  go_wp2_with fail
  rw [← hW0]
  refine hc.out.mono ?_
  clear hc
  intro e w1 hp
  have HF := Lib.hid (DPost.late HX.out.2 HX.out.1 hp)
  obtain ⟨rfl, _, _⟩ := hp
  go_wp2_with fail
  go_ret
  exact HF.out
set_option maxRecDepth 100000 in
set_option maxHeartbeats 4000000 in
theorem do29_lo (D : Nat) (n m : ByteArray) (A : Option Addr) (c : Nat) (b : List Nat) (st : Ds) (φ : Nat → Prop) (w : World) (h : DK w φ D st) (k : Int) (hk : k < 0) :
    Calls Try.prog 29 #[.pointer (some ⟨D, 0, none⟩), .agg #[.int .i64 k, .string n, .string m, .slice A b.length c]] w (DPost w φ D 1 st) := by
  have p0 : decide (k < 0) = true := decide_eq_true hk
  have HX := Lib.hid h
  clear h hk
  go_enter Try.func29, Try.ntmps29
  go_wp2_with fail
  go_ret
  exact DPost.below HX.out ((((Below.refl _ w).alloc (Nat.le_refl _) _).alloc (by simp) _).alloc (by simp; omega) _)
set_option maxRecDepth 100000 in
set_option maxHeartbeats 4000000 in
theorem do29_hi (D : Nat) (n m : ByteArray) (A : Option Addr) (c : Nat) (b : List Nat) (st : Ds) (φ : Nat → Prop) (w : World) (h : DK w φ D st) (k : Int) (hk : 5 < k) :
    Calls Try.prog 29 #[.pointer (some ⟨D, 0, none⟩), .agg #[.int .i64 k, .string n, .string m, .slice A b.length c]] w (DPost w φ D 1 st) := by
  have p0 : decide (k < 0) = false := decide_eq_false (by omega)
  have p1 : decide (6 ≤ k) = true := decide_eq_true (by omega)
  have p2 : decide (((6 : Nat) : Int) ≤ k) = true := decide_eq_true (by omega)
  have HX := Lib.hid h
  clear h hk
  go_enter Try.func29, Try.ntmps29
  go_wp2_with fail
  go_ret
  exact DPost.below HX.out ((((Below.refl _ w).alloc (Nat.le_refl _) _).alloc (by simp) _).alloc (by simp; omega) _)
theorem do29 (D : Nat) (n m : ByteArray) (A : Option Addr) (c : Nat) (b : List Nat) (st : Ds) (φ : Nat → Prop) (w : World) (h : DK w φ D st) (k : Int) (hr : Rd w w.heap.size A b.length (b.map bv)) (hblt : ∀ y ∈ b, y < 256) (hbl : b.length ≤ 1000000) (hs : n.size ≤ 1000000000000000) (hsm : m.size ≤ 1000000000000000) (hst : st.steps ≤ 1000000000) (hl : st.acts.length ≤ 1000000) (hdl : st.dir.length ≤ 1000000) (hu : usedL st.fs st.dir ≤ 1000000000) (hb : ∀ x ∈ st.fs, x.b.length + b.length ≤ 1000000000) :
    Calls Try.prog 29 #[.pointer (some ⟨D, 0, none⟩), .agg #[.int .i64 k, .string n, .string m, .slice A b.length c]] w (DPost w φ D (opE st k n m b) (opS st k n m b)) := by
  by_cases h1 : k < 0
  · obtain ⟨e1, e2⟩ := op_bad (st := st) (n := n) (m := m) (b := b) (.inl h1)
    rw [e1, e2]
    exact do29_lo D n m A c b st φ w h k h1
  · by_cases h2 : 5 < k
    · obtain ⟨e1, e2⟩ := op_bad (st := st) (n := n) (m := m) (b := b) (.inr h2)
      rw [e1, e2]
      exact do29_hi D n m A c b st φ w h k h2
    · obtain ⟨i, rfl⟩ : ∃ i : Nat, k = i := ⟨k.toNat, by omega⟩
      obtain ⟨e1, e2⟩ := op_nat (st := st) (i := i) (n := n) (m := m) (b := b) (by omega)
      rw [e1, e2]
      match i, h2 with
      | 0, _ => exact do29_0 D n m A c b st φ w h hs hst hl hdl
      | 1, _ => exact do29_1 D n m A c b st φ w h hr hblt hbl hs hst hu hb
      | 2, _ => exact do29_2 D n m A c b st φ w h hs hst hb
      | 3, _ => exact do29_3 D n m A c b st φ w h hs hsm hst hl hdl
      | 4, _ => exact do29_4 D n m A c b st φ w h hs hst hl hdl
      | 5, _ => exact do29_5 D n m A c b st φ w h hst
      | i + 6, h2 => exact absurd h2 (by omega)
end Go.Proofs.Ytedjfbkfaioihaa
