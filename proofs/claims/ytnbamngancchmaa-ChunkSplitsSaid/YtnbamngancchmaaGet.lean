/- What bits.Reader.Get does: the bits from a place on, as a number; error 5 where there are too few. Conditions: at most 10^9 bytes, 64 bits at once. -/
import Derived.Test.YtnbamngancchmaaReader
import Derived.Recover
import Derived.Defers
namespace Go.Proofs.Ytnbamngancchmaa
open Go.RowKit PB PS

theorem ta124 (z : Int) (w : World) : (Instr.typeAssert (.iface 124 (.agg #[.int .i64 z])) 20 124 true).run Try.prog w = .ok (.tuple #[.agg #[.int .i64 z], .bool true]) w := by
  kernel_rfl

set_option maxRecDepth 100000 in
theorem catch74 (p1 p2 : Nat) (x y z : Int) (older : List PanicEntry) (w : World) (h1 : w.cell? ⟨p1, 0, none⟩ = some (.int .i64 x)) (h2 : w.cell? ⟨p2, 0, none⟩ = some (.int .i64 y)) (f1 : w.frozen? ⟨p1, 0, none⟩ = false) (f2 : w.frozen? ⟨p2, 0, none⟩ = false) (hne : p1 ≠ p2) :
    CallsD Try.prog 74 #[.pointer (some ⟨p1, 0, none⟩), .pointer (some ⟨p2, 0, none⟩)] (.panicking ({ v := .iface 124 (.agg #[.int .i64 z]), recovered := false } :: older)) w fun e u' w' =>
      e = .returned (.tuple #[]) ∧ u' = .panicking ({ v := .iface 124 (.agg #[.int .i64 z]), recovered := true } :: older) ∧ w'.cell? ⟨p1, 0, none⟩ = some (.int .i64 0) ∧ w'.cell? ⟨p2, 0, none⟩ = some (.int .i64 z) ∧ Kp (fun x => x = p1 ∨ x = p2) w w' := by
  refine callsD_of_wpS Try.func74 rfl fun c₀ cs hu => ?_
  apply wpS_seq
  apply wpS_region
  simp [wpOpsS, go_sem, recoverD, hu, Try.ntmps74, Exit.thenS]
  refine wpS_of_wp ?_
  change Code.wp Try.prog _ _ { tmps := #[.pointer (some ⟨p1, 0, none⟩), .pointer (some ⟨p2, 0, none⟩), .iface 124 (.agg #[.int .i64 z]), undef, undef, .iface 124 (.agg #[.int .i64 z]), undef, undef, undef, undef, undef, undef, undef, undef, undef, undef, undef, undef], defers := [] } w
  have hta := ta124 z
  go_wp2_with fail
  obtain ⟨w1, hw1⟩ : ∃ w1, w1 = w.alloc (.cells #[.int .i64 z] 124) := ⟨_, rfl⟩
  rw [← hw1]
  have hx := (Arr.new w 124 #[.int .i64 z]).at_ (i := 0) rfl
  have b1 := World.block_lt_of_cell? _ _ h1
  have b2 := World.block_lt_of_cell? _ _ h2
  have k1 : w1.cell? ⟨p1, 0, none⟩ = some (.int .i64 x) := by rw [hw1, World.cell?_alloc_past _ _ _ b1]; exact h1
  have k2 : w1.cell? ⟨p2, 0, none⟩ = some (.int .i64 y) := by rw [hw1, World.cell?_alloc_past _ _ _ b2]; exact h2
  have g1 : w1.frozen? ⟨p1, 0, none⟩ = false := by rw [hw1, World.frozen?_alloc_past _ _ _ b1]; exact f1
  have g2 : w1.frozen? ⟨p2, 0, none⟩ = false := by rw [hw1, World.frozen?_alloc_past _ _ _ b2]; exact f2
  have n1 : p1 ≠ w.heap.size := by have : p1 < w.heap.size := b1; omega
  have n2 : p2 ≠ w.heap.size := by have : p2 < w.heap.size := b2; omega
  have n3 : p2 ≠ p1 := Ne.symm hne
  rw [← hw1] at hx
  have HW1 := Lib.hid hw1
  clear h1 h2 f1 f2 b1 b2 hta hw1
  go_region
  have m1 := World.cell?_setCell_same w1 ⟨p1, 0, none⟩ (.int .i64 0) k1
  have m1' : ((w1.setCell ⟨p1, 0, none⟩ (.int .i64 0)).setCell ⟨p2, 0, none⟩ (.int .i64 z)).cell? ⟨p1, 0, none⟩ = some (.int .i64 0) := by
    rw [World.cell?_setCell_other _ _ _ _ (by intro e; injection e with e; exact hne e.symm)]; exact m1
  have m2 : (w1.setCell ⟨p1, 0, none⟩ (.int .i64 0)).cell? ⟨p2, 0, none⟩ = some (.int .i64 y) := by
    rw [World.cell?_setCell_other _ _ _ _ (by intro e; injection e with e; exact hne e)]; exact k2
  have m2' := World.cell?_setCell_same _ ⟨p2, 0, none⟩ (.int .i64 z) m2
  have m3 : Kp (fun x => x = p1 ∨ x = p2) w ((w1.setCell ⟨p1, 0, none⟩ (.int .i64 0)).setCell ⟨p2, 0, none⟩ (.int .i64 z)) := by
    rw [HW1.out]
    exact (((Kp.refl _ w).alloc _).setCell (Or.inl (Or.inl rfl)) _).setCell (Or.inl (Or.inr rfl)) _
  exact ⟨rfl, _, rfl, _, results_none rfl _ _ _, rfl, rfl, m1', m2', m3.drew⟩

theorem idle74 (p1 p2 : Addr) (w : World) :
    CallsD Try.prog 74 #[.pointer (some p1), .pointer (some p2)] .returning w fun e u' w' => e = .returned (.tuple #[]) ∧ u' = .returning ∧ w' = w := by
  refine callsD_of_wpS Try.func74 rfl fun c₀ cs hu => ?_
  apply wpS_seq
  apply wpS_region
  simp [wpOpsS, go_sem, recoverD, hu, Try.ntmps74, Exit.thenS]
  refine wpS_of_wp ?_
  change Code.wp Try.prog _ _ { tmps := #[.pointer (some p1), .pointer (some p2), .nilIface, undef, undef, .nilIface, undef, undef, undef, undef, undef, undef, undef, undef, undef, undef, undef, undef], defers := [] } w
  go_wp2_with fail
  cases c₀
  exact ⟨rfl, _, by simp_all, _, results_none rfl _ _ _, rfl, rfl, rfl⟩

theorem Rdr.alloc {w : World} {g n c pos : Nat} {A : Option Addr} {l : List Nat} (h : Rdr w g A n c l pos) (o : Obj) : Rdr (w.alloc o) g A n c l pos := h.kp (S := fun _ => False) ((Kp.refl _ w).alloc o) (fun _ _ h => h)
/-- Two new variables, and what a call that leaves them alone leaves of them. -/
theorem two_new (w : World) (x y : Value) (t u : TypeId) : Arr ((w.alloc (.cells #[x] t)).alloc (.cells #[y] u)) w.heap.size t #[x] ∧ Arr ((w.alloc (.cells #[x] t)).alloc (.cells #[y] u)) (w.heap.size + 1) u #[y] := by
  refine ⟨(Arr.new w t #[x]).alloc _, ?_⟩
  have := Arr.new (w.alloc (.cells #[x] t)) u #[y]
  simpa using this

set_option maxRecDepth 100000 in
set_option maxHeartbeats 1000000 in
theorem get_some (g n c pos m : Nat) (A : Option Addr) (l : List Nat) (w : World) (h : Rdr w g A n c l pos) (hn : n ≤ 1000000000) (hm : m ≤ 64) (hle : pos + m ≤ 8 * n) (hb : ∀ x ∈ l, x < 256) :
    Calls Try.prog 71 #[.pointer (some ⟨g, 0, none⟩), .int .i64 (m : Int)] w fun e w' => e = .returned (.tuple #[.int .i64 (wrap64 ((natOf (((bitsOf l).drop pos).take m) : Nat) : Int)), .int .i64 0]) ∧ Rdr w' g A n c l (pos + m) ∧ Kp (fun x => x = g) w w' := by
  have hmf : ∀ (fn : Fn) (first cap : Array Value) (w : World), (Instr.makeFunc fn first cap).run Try.prog w = .ok (.func fn first cap) w := fun _ _ _ _ => rfl
  obtain ⟨a1, a2⟩ := two_new w (.int .i64 0) (.int .i64 0) 3 25
  obtain ⟨v, hv⟩ : ∃ v, v = wrap64 ((natOf (((bitsOf l).drop pos).take m) : Nat) : Int) := ⟨_, rfl⟩
  have hq := take_some g n c pos m A l _ ((h.alloc (.cells #[.int .i64 0] 3)).alloc (.cells #[.int .i64 0] 25)) hn hm hle hb
  rw [← hv] at hq ⊢
  have hk0 : Kp (fun x => x = g) w ((w.alloc (.cells #[.int .i64 0] 3)).alloc (.cells #[.int .i64 0] 25)) := ((Kp.refl _ w).alloc _).alloc _
  have hg := h.arr.lt
  clear hv
  go_enter_defers Try.func71, Try.ntmps71
  go_wp2_with fail
  refine hq.mono ?_
  rintro e w3 ⟨rfl, hr3, hk3⟩
  have b1 := a1.kp hk3 (by omega)
  have b2 := a2.kp hk3 (by omega)
  have c1 := b1.at_ (i := 0) rfl
  have c2 := b2.at_ (i := 0) rfl
  have f1 := b1.frozen 0
  have f2 := b2.frozen 0
  have HR : Hid (Rdr ((w3.setCell ⟨w.heap.size, 0, none⟩ (.int .i64 v)).setCell ⟨w.heap.size + 1, 0, none⟩ (.int .i64 0)) g A n c l (pos + m) ∧ Kp (fun x => x = g) w ((w3.setCell ⟨w.heap.size, 0, none⟩ (.int .i64 v)).setCell ⟨w.heap.size + 1, 0, none⟩ (.int .i64 0))) := by
    refine ⟨hr3.kp (S := fun x => x = w.heap.size ∨ x = w.heap.size + 1) (((Kp.refl _ w3).setCell (Or.inl (Or.inl rfl)) _).setCell (Or.inl (Or.inr rfl)) _) (fun x hx => by omega), ?_⟩
    exact ((hk0.trans hk3 (fun _ _ h => h)).setCell (Or.inr (Nat.le_refl _)) _).setCell (Or.inr (Nat.le_succ _)) _
  have d1 := ((b1.set 0 (.int .i64 v)).far (p := ⟨w.heap.size + 1, 0, none⟩) (by show w.heap.size + 1 ≠ w.heap.size; omega) (.int .i64 0)).at_ (i := 0) rfl
  have d2 := ((b2.far (p := ⟨w.heap.size, 0, none⟩) (by show w.heap.size ≠ w.heap.size + 1; omega) (.int .i64 v)).set 0 (.int .i64 0)).at_ (i := 0) rfl
  have D1 := Lib.hid d1
  have D2 := Lib.hid d2
  clear hq hr3 hk3 hk0 a1 a2 b1 b2 d1 d2
  go_wp2_with fail
  obtain ⟨w4, hw4⟩ : ∃ w4, w4 = (w3.setCell ⟨w.heap.size, 0, none⟩ (.int .i64 v)).setCell ⟨w.heap.size + 1, 0, none⟩ (.int .i64 0) := ⟨_, rfl⟩
  rw [← hw4] at D1 D2 HR ⊢
  have d1 := D1.out
  have d2 := D2.out
  clear hw4 c1 c2 f1 f2
  refine leaves_cons (f := 74) (args := #[.pointer (some ⟨w.heap.size, 0, none⟩), .pointer (some ⟨w.heap.size + 1, 0, none⟩)]) (by simp) (by simp [go_sem]) ?_
  refine (idle74 _ _ _).mono ?_
  rintro e u' w'' ⟨rfl, rfl, rfl⟩
  simp [Leaves, settle, results, Try.results71, go_sem, d1, d2]
  exact HR.out

set_option maxRecDepth 100000 in
set_option maxHeartbeats 1000000 in
theorem get_none (g n c pos m : Nat) (A : Option Addr) (l : List Nat) (w : World) (h : Rdr w g A n c l pos) (hn : n ≤ 1000000000) (hm : m ≤ 64) (hlt : 8 * n < pos + m) :
    Calls Try.prog 71 #[.pointer (some ⟨g, 0, none⟩), .int .i64 (m : Int)] w fun e w' => e = .returned (.tuple #[.int .i64 0, .int .i64 5]) ∧ Rdr w' g A n c l pos ∧ Kp (fun x => x = g) w w' := by
  have hmf : ∀ (fn : Fn) (first cap : Array Value) (w : World), (Instr.makeFunc fn first cap).run Try.prog w = .ok (.func fn first cap) w := fun _ _ _ _ => rfl
  obtain ⟨a1, a2⟩ := two_new w (.int .i64 0) (.int .i64 0) 3 25
  have hr0 := (h.alloc (.cells #[.int .i64 0] 3)).alloc (.cells #[.int .i64 0] 25)
  have hq := take_none g n c pos m A l _ hr0 hn hm hlt
  have hk0 : Kp (fun x => x = g) w ((w.alloc (.cells #[.int .i64 0] 3)).alloc (.cells #[.int .i64 0] 25)) := ((Kp.refl _ w).alloc _).alloc _
  have hg := h.arr.lt
  go_enter_defers Try.func71, Try.ntmps71
  go_wp2_with fail
  refine hq.mono ?_
  rintro e w3 ⟨rfl, k, rfl⟩
  have hr3 := hr0.drewN k
  have hk3 := hk0.drewN k
  have b1 := a1.drewN k
  have b2 := a2.drewN k
  obtain ⟨w3, hw3⟩ : ∃ w3, w3 = ((w.alloc (.cells #[.int .i64 0] 3)).alloc (.cells #[.int .i64 0] 25)).drewN k := ⟨_, rfl⟩
  rw [← hw3] at hr3 hk3 b1 b2
  have c1 := b1.at_ (i := 0) rfl
  have c2 := b2.at_ (i := 0) rfl
  have f1 := b1.frozen 0
  have f2 := b2.frozen 0
  simp only [gaveUp]
  rw [← hw3]
  clear hq hr0 hk0 a1 a2 hw3
  go_wp2_with fail
  refine leaves_cons (f := 74) (args := #[.pointer (some ⟨w.heap.size, 0, none⟩), .pointer (some ⟨w.heap.size + 1, 0, none⟩)]) (by simp) (by simp [go_sem]) ?_
  refine (catch74 w.heap.size (w.heap.size + 1) 0 0 5 [] w3 c1 c2 f1 f2 (by omega)).mono ?_
  rintro e u' w4 ⟨rfl, rfl, d1, d2, hk4⟩
  have HR : Hid (Rdr w4 g A n c l pos ∧ Kp (fun x => x = g) w w4) :=
    ⟨hr3.kp hk4 (fun x hx => by omega), hk3.trans hk4 (fun x hx hy => by omega)⟩
  simp [Leaves, settle, results, Try.results71, go_sem, d1, d2]
  exact HR.out
end Go.Proofs.Ytnbamngancchmaa
