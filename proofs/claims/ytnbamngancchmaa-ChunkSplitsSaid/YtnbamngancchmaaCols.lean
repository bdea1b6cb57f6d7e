/- What chunk.columns, and the reference's parts, answer: the times and the values of samples, in new memory. Conditions: at most 10^9 samples. -/
import Derived.Test.YtnbamngancchmaaVpacks
import Derived.Deep.RegionLaw
namespace Go.Proofs.Ytnbamngancchmaa
open Go.RowKit PB

theorem Try.cinfo3 : (Try.prog.info? 3).map (fun i => (i.zero, i.size, i.bytes)) = some (some (.int .i64 0), 1, 8) := by kernel_rfl
/-- The cells of samples. -/
def sc (l : List (Int × Int)) : List Value := l.flatMap fun p => [.int .i64 p.1, .int .i64 p.2]
theorem sc_len (l : List (Int × Int)) : (sc l).length = 2 * l.length := by
  induction l with
  | nil => rfl
  | cons a l ih => simp only [sc, List.flatMap_cons, List.length_append, List.length_cons, List.length_nil]; unfold sc at ih; omega
theorem sc_at {l : List (Int × Int)} {k : Nat} (hk : k < l.length) : (sc l)[2 * k]? = some (.int .i64 (l.getD k (0, 0)).1) ∧ (sc l)[2 * k + 1]? = some (.int .i64 (l.getD k (0, 0)).2) := by
  induction l generalizing k with
  | nil => simp at hk
  | cons a l ih =>
    cases k with
    | zero => exact ⟨rfl, rfl⟩
    | succ k =>
      have := ih (k := k) (by simpa using hk)
      have e : sc (a :: l) = .int .i64 a.1 :: .int .i64 a.2 :: sc l := rfl
      rw [e, show 2 * (k + 1) = 2 * k + 2 by omega, show 2 * k + 2 + 1 = 2 * k + 1 + 2 by omega]
      simpa [List.getElem?_cons_succ] using this
theorem sc_append (l m : List (Int × Int)) : sc (l ++ m) = sc l ++ sc m := by simp [sc]

/-- A slice of samples (nil let in) reads as l, below block B. -/
def Rs2 (w : World) (B : Nat) (A : Option Addr) (n : Nat) (l : List (Int × Int)) : Prop :=
  l.length = n ∧ (0 < n → ∃ b off, A = some ⟨b, off, none⟩ ∧ b < B ∧ ∀ j u, (sc l)[j]? = some u → w.cell? ⟨b, off + j, none⟩ = some u)
section
variable {w w' : World} {S : Nat → Prop} {B B' : Nat} {A : Option Addr} {n : Nat} {l : List (Int × Int)}
theorem Rs2.keep (h : Rs2 w B A n l) (hk : ∀ x, x < B → w'.heap[x]? = w.heap[x]?) : Rs2 w' B A n l :=
  ⟨h.1, fun hn => by
    obtain ⟨b, off, e, hb, hc⟩ := h.2 hn
    exact ⟨b, off, e, hb, fun j u hu => (World.cell?_of_block (w := w) (a := ⟨b, off + j, none⟩) (hk b hb)).trans (hc j u hu)⟩⟩
theorem Rs2.below (h : Rs2 w B A n l) (hb : Below B w w') : Rs2 w' B A n l := h.keep fun x hx => hb.block x hx
theorem Rs2.more (h : Rs2 w B A n l) (hB : B ≤ B') : Rs2 w B' A n l :=
  ⟨h.1, fun hn => by
    obtain ⟨b, off, e, hb, hc⟩ := h.2 hn
    exact ⟨b, off, e, by omega, hc⟩⟩
theorem Rs2.drewN (h : Rs2 w B A n l) (k : Nat) : Rs2 (w.drewN k) B A n l := h
theorem Rs2.at2 (h : Rs2 w B A n l) {k : Nat} (hk : k < n) : ∃ b off, A = some ⟨b, off, none⟩ ∧ b < B ∧ ∀ j, j < n → w.cell? ⟨b, off + j * 2, none⟩ = some (.int .i64 (l.getD j (0, 0)).1) ∧ w.cell? ⟨b, off + j * 2 + 1, none⟩ = some (.int .i64 (l.getD j (0, 0)).2) := by
  obtain ⟨b, off, e, hb, hc⟩ := h.2 (by omega)
  refine ⟨b, off, e, hb, fun j hj => ?_⟩
  obtain ⟨h1, h2⟩ := sc_at (l := l) (k := j) (by rw [h.1]; exact hj)
  rw [Nat.mul_comm j 2, Nat.add_assoc]
  exact ⟨hc _ _ h1, hc _ _ h2⟩
theorem Rs2.of_own {base : Nat} {e : TypeId} {v : Value} (h : w.ownsRow base e 2 v n (sc l)) : ∃ A c, v = .slice A n c ∧ Rs2 w w.heap.size A n l ∧ n ≤ c ∧ c ≤ maxLen := by
  have hl : l.length = n := by have := h.1; rw [sc_len] at this; omega
  rcases h.2 with ⟨rfl, rfl⟩ | ⟨g', cap, cur, rfl, hb, hgg, r1, r2, r3, r4⟩
  · exact ⟨none, 0, rfl, ⟨hl, fun h => absurd h (by omega)⟩, Nat.le_refl _, by unfold maxLen; omega⟩
  · refine ⟨_, _, rfl, ⟨hl, fun _ => ⟨g', 0, rfl, (Array.getElem?_eq_some_iff.1 hgg).1, fun j u hu => ?_⟩⟩, r1, r2⟩
    have hh := h.cells (g := g') rfl j u hu
    have e : (⟨g', 0, none⟩ : Addr).add j = ⟨g', 0 + j, none⟩ := by unfold Addr.add; split <;> simp_all
    rw [← e]; exact hh
end

/-- Two rows being built. -/
structure Tw (w wr : World) (v1 v2 : Value) (k : Nat) (xs ys : List Int) : Prop where
  s : wr.ownsRow w.heap.size 3 1 v1 k (ints xs)
  t : wr.ownsRow w.heap.size 3 1 v2 k (ints ys)
  ne : ∀ x, v1.ownBlock = some x → v2.ownBlock ≠ some x
  below : Below w.heap.size w wr
theorem Tw.first {w wr w2 : World} {v8 v9 v1 : Value} {k m : Nat} {xs ys zs : List Int} {X : Obj} (h : Tw w wr v8 v9 k xs ys) (h1 : w2.ownsRow w.heap.size 3 1 v1 m (ints zs)) (hg : (wr.alloc X).grownBy w2 v8.ownBlock)
    (hat : v1.ownBlock = v8.ownBlock ∨ v1.ownBlock = some (wr.alloc X).heap.size) :
    w2.ownsRow w.heap.size 3 1 v9 k (ints ys) ∧ w.heap.size ≤ w2.heap.size ∧ (∀ x, v1.ownBlock = some x → v9.ownBlock ≠ some x) ∧ Below w.heap.size w w2 ∧ Below w.heap.size wr w2 := by
  have hk : Kp (fun k => v8.ownBlock = some k) wr w2 := ((Kp.refl _ wr).alloc _).grown hg (fun x _ h => h)
  have hbb : Below w.heap.size wr w2 := ((Below.refl _ wr).alloc h.below.size _).grown hg (by simp; exact Nat.le_trans h.below.size (by omega)) (fun x hx => (h.s.lt x hx).1)
  refine ⟨own_kp h.t hk (fun x hx h8 => h.ne x h8 hx), Nat.le_trans h.below.size hk.size, ?_, ?_, hbb⟩
  · intro x hx h9
    rcases hat with e | e
    · exact h.ne x (by rw [← e]; exact hx) h9
    · have := (h.t.lt x h9).2
      rw [e] at hx
      injection hx with hx
      simp at hx
      omega
  · exact (h.below.alloc h.below.size _).grown hg (by simp; exact Nat.le_trans h.below.size (by omega)) (fun x hx => (h.s.lt x hx).1)
theorem tw_second {w w2 w3 : World} {v9 v1 v2 : Value} {k m : Nat} {xs ys zs : List Int} {X : Obj} (h1 : w2.ownsRow w.heap.size 3 1 v1 m (ints xs)) (hne : ∀ x, v1.ownBlock = some x → v9.ownBlock ≠ some x) (hb : Below w.heap.size w w2)
    (h9 : w2.ownsRow w.heap.size 3 1 v9 k (ints ys)) (h2 : w3.ownsRow w.heap.size 3 1 v2 m (ints zs)) (hg : (w2.alloc X).grownBy w3 v9.ownBlock)
    (hat : v2.ownBlock = v9.ownBlock ∨ v2.ownBlock = some (w2.alloc X).heap.size) : Tw w w3 v1 v2 m xs zs := by
  have hk : Kp (fun k => v9.ownBlock = some k) w2 w3 := ((Kp.refl _ w2).alloc _).grown hg (fun x _ h => h)
  refine ⟨own_kp h1 hk (fun x hx h8 => hne x hx h8), h2, ?_, ?_⟩
  · intro x hx h3
    rcases hat with e | e
    · exact hne x hx (by rw [← e]; exact h3)
    · have := (h1.lt x hx).2
      rw [e] at h3
      injection h3 with h3
      simp at h3
      omega
  · exact (hb.alloc hb.size _).grown hg (by simp; exact Nat.le_trans hb.size (by omega)) (fun x hx => (h9.lt x hx).1)

def fsts (l : List (Int × Int)) : List Int := l.map Prod.fst
def snds (l : List (Int × Int)) : List Int := l.map Prod.snd
theorem fsts_succ {l : List (Int × Int)} {k : Nat} (h : k < l.length) : fsts (l.take (k + 1)) = fsts (l.take k) ++ [(l.getD k (0, 0)).1] := by
  rw [List.take_succ_eq_append_getElem h]; simp only [fsts, List.map_append, List.map_cons, List.map_nil, List.getD, List.getElem?_eq_getElem h, Option.getD_some]
theorem snds_succ {l : List (Int × Int)} {k : Nat} (h : k < l.length) : snds (l.take (k + 1)) = snds (l.take k) ++ [(l.getD k (0, 0)).2] := by
  rw [List.take_succ_eq_append_getElem h]; simp only [snds, List.map_append, List.map_cons, List.map_nil, List.getD, List.getElem?_eq_getElem h, Option.getD_some]
/-- What columns answers. -/
def ColsPost (w : World) (n : Nat) (l : List (Int × Int)) (r : Ending) (w' : World) : Prop :=
  ∃ v1 v2, r = .returned (.tuple #[v1, v2]) ∧ w'.ownsRow w.heap.size 3 1 v1 n (ints (fsts l)) ∧ w'.ownsRow w.heap.size 3 1 v2 n (ints (snds l)) ∧ Below w.heap.size w w'

/-- Two rows of their own, beside each other. -/
structure Inv (w W : World) (va : Value) (ka : Nat) (xs : List Int) (vb : Value) (kb : Nat) (ys : List Int) : Prop where
  a : W.ownsRow w.heap.size 3 1 va ka (ints xs)
  b : W.ownsRow w.heap.size 3 1 vb kb (ints ys)
  ne : ∀ x, va.ownBlock = some x → vb.ownBlock ≠ some x
  bel : Below w.heap.size w W
theorem Inv.alloc {w W : World} {va vb : Value} {ka kb : Nat} {xs ys : List Int} (h : Inv w W va ka xs vb kb ys) (X : Obj) : Inv w (W.alloc X) va ka xs vb kb ys := ⟨h.a.alloc _, h.b.alloc _, h.ne, h.bel.alloc h.bel.size _⟩
theorem Inv.drew {w W : World} {va vb : Value} {ka kb : Nat} {xs ys : List Int} (h : Inv w W va ka xs vb kb ys) : Inv w W.drew va ka xs vb kb ys := ⟨h.a, h.b, h.ne, h.bel.drew⟩
theorem Inv.swap {w W : World} {va vb : Value} {ka kb : Nat} {xs ys : List Int} (h : Inv w W va ka xs vb kb ys) : Inv w W vb kb ys va ka xs := ⟨h.b, h.a, fun x h1 h2 => h.ne x h2 h1, h.bel⟩
theorem Inv.app {w W W' : World} {va vb : Value} {ka kb m g cap : Nat} {xs ys zs : List Int} (h : Inv w W va ka xs vb kb ys) (h1 : W'.ownsRow w.heap.size 3 1 (.slice (some ⟨g, 0, none⟩) m cap) m (ints zs)) (hg : W.grownBy W' va.ownBlock)
    (hat : va.ownBlock = some g ∨ g = W.heap.size) : Inv w W' (.slice (some ⟨g, 0, none⟩) m cap) m zs vb kb ys := by
  have hk : Kp (fun k => va.ownBlock = some k) W W' := (Kp.refl _ W).grown hg (fun x _ h => h)
  refine ⟨h1, own_kp h.b hk (fun x hx h8 => h.ne x h8 hx), ?_, h.bel.grown hg h.bel.size (fun x hx => (h.a.lt x hx).1)⟩
  intro x hx h9
  have hx : g = x := by simpa [Value.ownBlock] using hx
  subst hx
  rcases hat with e | e
  · exact h.ne _ e h9
  · have := (h.b.lt _ h9).2
    omega
theorem pend {W W' : World} {row : Option Nat} {b : Nat} {x : Value} (hg : W.grownBy W' row) (hc : ∀ j u, [x][j]? = some u → W.cell? ((⟨b, 0, none⟩ : Addr).add j) = some u) (hlt : b < W.heap.size) (hne : row ≠ some b) :
    ∀ j u, [x][j]? = some u → W'.cell? ((⟨b, 0, none⟩ : Addr).add j) = some u := by
  intro j u hu
  have hb : ((⟨b, 0, none⟩ : Addr).add j).block = b := by unfold Addr.add; split <;> rfl
  exact (World.cell?_of_block (w := W) (a := (⟨b, 0, none⟩ : Addr).add j) (by rw [hb]; exact hg.block b hlt (Ne.symm hne))).trans (hc j u hu)
theorem news_past (w : World) (x y : Value) (t u : TypeId) : ∀ j v, [x][j]? = some v → ((w.alloc (.cells #[x] t)).alloc (.cells #[y] u)).cell? ((⟨w.heap.size, 0, none⟩ : Addr).add j) = some v := by
  intro j v hv
  have hb : ((⟨w.heap.size, 0, none⟩ : Addr).add j).block = w.heap.size := by unfold Addr.add; split <;> rfl
  exact (World.cell?_of_block (w := w.alloc (.cells #[x] t)) (a := (⟨w.heap.size, 0, none⟩ : Addr).add j) (by rw [hb]; exact Below.heap_alloc _ _ _ (by simp))).trans (cell_one_new w x t j v hv)
theorem news_last (w : World) (x y : Value) (t u : TypeId) : ∀ j v, [y][j]? = some v → ((w.alloc (.cells #[x] t)).alloc (.cells #[y] u)).cell? ((⟨w.heap.size + 1, 0, none⟩ : Addr).add j) = some v := by
  intro j v hv
  have := cell_one_new (w.alloc (.cells #[x] t)) y u j v hv
  rwa [show (w.alloc (.cells #[x] t)).heap.size = w.heap.size + 1 by simp] at this

set_option maxRecDepth 100000 in
set_option maxHeartbeats 1000000 in
theorem rparts_any (A : Option Addr) (n c B : Nat) (l : List (Int × Int)) (w : World) (hr : Rs2 w B A n l) (hB : B ≤ w.heap.size) (hn : n ≤ 1000000000) :
    Calls Try.prog 58 #[.slice A n c] w (ColsPost w n l) := by
  obtain ⟨i0, hi, hz0, hz1, hz2⟩ := info_parts Try.cinfo3
  have HL := Lib.hid hr.1
  go_enter Try.func58, Try.ntmps58
  go_wp2_with fail
  go_loopw [4, 5, 6] (fun v1 v2 i wr => ∃ k : Nat, k ≤ n ∧ i = .int .i64 k ∧ Hid (Tw w wr v1 v2 k (fsts (l.take k)) (snds (l.take k)))) (fun _ _ i _ => n - (intOf i).toNat)
  case atStart => exact ⟨0, Nat.zero_le _, rfl, World.ownsRow_nil _ _ _ _, World.ownsRow_nil _ _ _ _, (fun x h => by cases h), Below.refl _ _⟩
  case round =>
    obtain ⟨k, hk, rfl, HT⟩ := hrel
    by_cases hlt : k < n
    · obtain ⟨b, off, rfl, hbB, hc⟩ := (hr.below (HT.out.below.mono hB)).at2 hlt
      obtain ⟨c0, c1⟩ := hc k hlt
      obtain ⟨x, hx⟩ : ∃ x, x = (l.getD k (0, 0)).1 := ⟨_, rfl⟩
      obtain ⟨y, hy⟩ : ∃ y, y = (l.getD k (0, 0)).2 := ⟨_, rfl⟩
      rw [← hx] at c0
      rw [← hy] at c1
      have HXY : Hid (fsts (l.take (k + 1)) = fsts (l.take k) ++ [x] ∧ snds (l.take (k + 1)) = snds (l.take k) ++ [y]) := by
        rw [hx, hy]; exact ⟨fsts_succ (by rw [HL.out]; exact hlt), snds_succ (by rw [HL.out]; exact hlt)⟩
      obtain ⟨T, hT⟩ : ∃ T, T = fsts (l.take k) := ⟨_, rfl⟩
      obtain ⟨V, hV⟩ : ∃ V, V = snds (l.take k) := ⟨_, rfl⟩
      rw [← hT, ← hV] at HT HXY
      have hsz := HT.out.below.size
      have hown := HT.out.s
      clear hx hy hc hT hV
      go_wp2_with (first | (at_builtin; refine wpList_append_own_at _ rfl (.tmp 13) (.tmp 19) 23 rfl w.heap.size 3 i0 (.int .i64 0) 1 8 Try.underlying23 hi hz0 hz1 hz2 rfl (by decide) _ k (ints T) rfl (hown.alloc _) ⟨wr.heap.size, 0, none⟩ 1 1 [.int .i64 x] rfl rfl (cell_one_new wr _ 3) (by simp [Value.oneCell']) (by unfold maxLen; omega) (by omega) (by simp; omega) ?_; intro v1 w2 hown1 hg1 _ hat1; have hA := HT.out.first (zs := T ++ [x]) (by simpa [ints] using hown1) hg1 hat1; obtain ⟨ht2, hsz2, hA⟩ := hA; have c12 := (hA.2.2.cell (p := ⟨b, off + k * 2 + 1, none⟩) (by show b < _; omega)).trans c1; have HA := Lib.hid hA; clear hA) | (at_builtin; refine wpList_append_own_at _ rfl (.tmp 21) (.tmp 27) 23 rfl w.heap.size 3 i0 (.int .i64 0) 1 8 Try.underlying23 hi hz0 hz1 hz2 rfl (by decide) _ k (ints V) rfl (ht2.alloc _) ⟨w2.heap.size, 0, none⟩ 1 1 [.int .i64 y] rfl rfl (cell_one_new w2 _ 3) (by simp [Value.oneCell']) (by unfold maxLen; omega) (by omega) (by simp; omega) ?_; intro v2 w3 hown2 hg2 _ hat2; have hS := tw_second (xs := T ++ [x]) (zs := V ++ [y]) (by simpa [ints] using hown1) HA.out.1 HA.out.2.1 ht2 (by simpa [ints] using hown2) hg2 hat2; have HS := Lib.hid hS; clear hS hg2 hat2 hown2))
      go_roundw
      case rel => exact ⟨k + 1, by omega, by go_num, by rw [HXY.out.1, HXY.out.2]; exact HS.out⟩
      case measure => simp [intOf]; omega
    · obtain rfl : k = n := by omega
      have HF : Hid (wr.ownsRow w.heap.size 3 1 u4 k (ints (fsts l)) ∧ wr.ownsRow w.heap.size 3 1 u5 k (ints (snds l)) ∧ Below w.heap.size w wr) := by
        have h := HT.out
        rw [List.take_of_length_le (by rw [HL.out]; exact Nat.le_refl _)] at h
        exact ⟨h.s, h.t, h.below⟩
      go_wp2_with fail
      go_ret2
      exact ⟨u4, u5, rfl, HF.out⟩

set_option maxRecDepth 100000 in
set_option maxHeartbeats 1000000 in
theorem columns_any (A : Option Addr) (n c B : Nat) (l : List (Int × Int)) (w : World) (hr : Rs2 w B A n l) (hB : B ≤ w.heap.size) (hn : n ≤ 1000000000) :
    Calls Try.prog 56 #[.slice A n c] w (ColsPost w n l) := by
  obtain ⟨i0, hi, hz0, hz1, hz2⟩ := info_parts Try.cinfo3
  have HL := Lib.hid hr.1
  go_enter Try.func56, Try.ntmps56
  go_wp2_with fail
  go_loopw [2, 3, 8] (fun v1 v2 i wr => ∃ k : Nat, k ≤ n ∧ i = .int .i64 k ∧ Hid (Inv w wr v1 k (fsts (l.take k)) v2 k (snds (l.take k)))) (fun _ _ i _ => n - (intOf i).toNat)
  case atStart => exact ⟨0, Nat.zero_le _, rfl, World.ownsRow_nil _ _ _ _, World.ownsRow_nil _ _ _ _, (fun x h => by cases h), Below.refl _ _⟩
  case round =>
    obtain ⟨k, hk, rfl, HT⟩ := hrel
    by_cases hlt : k < n
    · obtain ⟨b, off, rfl, hbB, hc⟩ := (hr.below (HT.out.bel.mono hB)).at2 hlt
      obtain ⟨c0, c1⟩ := hc k hlt
      obtain ⟨x, hx⟩ : ∃ x, x = (l.getD k (0, 0)).1 := ⟨_, rfl⟩
      obtain ⟨y, hy⟩ : ∃ y, y = (l.getD k (0, 0)).2 := ⟨_, rfl⟩
      rw [← hx] at c0
      rw [← hy] at c1
      have HXY : Hid (fsts (l.take (k + 1)) = fsts (l.take k) ++ [x] ∧ snds (l.take (k + 1)) = snds (l.take k) ++ [y]) := by
        rw [hx, hy]; exact ⟨fsts_succ (by rw [HL.out]; exact hlt), snds_succ (by rw [HL.out]; exact hlt)⟩
      obtain ⟨T, hT⟩ : ∃ T, T = fsts (l.take k) := ⟨_, rfl⟩
      obtain ⟨V, hV⟩ : ∃ V, V = snds (l.take k) := ⟨_, rfl⟩
      rw [← hT, ← hV] at HT HXY
      clear hx hy hc hT hV
      go_wp2_with fail
      obtain ⟨w0, hw0⟩ : ∃ w0, w0 = wr.alloc (Obj.cells #[Value.int IntKind.i64 x, Value.int IntKind.i64 y] 43) := ⟨_, rfl⟩
      have hAr : Arr w0 wr.heap.size 43 #[.int .i64 x, .int .i64 y] := by rw [hw0]; exact Arr.new _ _ _
      have d0 := hAr.at_ (i := 0) rfl
      have d1 := hAr.at_ (i := 1) rfl
      have HI : Hid (Inv w w0 u2 k T u3 k V) := by rw [hw0]; exact HT.out.alloc _
      have hb0 : w.heap.size ≤ w0.heap.size := HI.out.bel.size
      have HAR := Lib.hid hAr
      rw [← hw0]
      have hnea : u2.ownBlock ≠ some wr.heap.size := own_ne HI.out.a HAR.out (by decide)
      have hneb : u3.ownBlock ≠ some wr.heap.size := own_ne HI.out.b HAR.out (by decide)
      have hd0 : ∀ X : Obj, (w0.alloc X).cell? ⟨wr.heap.size, 0, none⟩ = some (.int .i64 x) := fun X => (HAR.out.alloc X).at_ (i := 0) rfl
      have hd1 : ∀ X : Obj, (w0.alloc X).cell? ⟨wr.heap.size, 1, none⟩ = some (.int .i64 y) := fun X => (HAR.out.alloc X).at_ (i := 1) rfl
      have hA0 : 0 < 1 := by decide
      have hA2 : k + 1 ≤ maxLen := by unfold maxLen; omega
      have hA3 : (k + 1) * 8 ≤ 140737488355328 := by omega
      clear hw0 hAr HT c0 c1
      go_region_law (first | (refine step_append_lies _ (by rfl) (.tmp 12) (.tmp 15) 23 (by rfl) w.heap.size 3 i0 (.int .i64 0) 1 8 Try.underlying23 hi hz0 hz1 hz2 rfl hA0 u2 k (ints T) (by rfl) ((HIB.out.swap.alloc _).a) ⟨wB.heap.size, 0, none⟩ 1 1 [.int .i64 x] (by rfl) (by rfl) (cell_one_new wB _ 3) (by simp [Value.oneCell']) hA0 hA2 hA3 (by first | omega | (simp; omega)) _ rfl ?_; intro gA capA wA hownA hgA hatA hltA; have hS := (HIB.out.swap.alloc _).app (zs := T ++ [x]) (by simpa [ints] using hownA) hgA hatA; have HS := Lib.hid (hS); clear hS hownA hgA hatA hltA) | (refine step_append_lies _ (by rfl) (.tmp 12) (.tmp 15) 23 (by rfl) w.heap.size 3 i0 (.int .i64 0) 1 8 Try.underlying23 hi hz0 hz1 hz2 rfl hA0 u2 k (ints T) (by rfl) (HIB.out.swap.a) ⟨w0.heap.size + 1, 0, none⟩ 1 1 [.int .i64 x] (by rfl) (by rfl) (hpB) (by simp [Value.oneCell']) hA0 hA2 hA3 (by first | omega | (simp; omega)) _ rfl ?_; intro gA capA wA hownA hgA hatA hltA; have hS := (HIB.out.swap).app (zs := T ++ [x]) (by simpa [ints] using hownA) hgA hatA; have HS := Lib.hid (hS); clear hS hownA hgA hatA hltA) | (refine step_append_lies _ (by rfl) (.tmp 12) (.tmp 15) 23 (by rfl) w.heap.size 3 i0 (.int .i64 0) 1 8 Try.underlying23 hi hz0 hz1 hz2 rfl hA0 u2 k (ints T) (by rfl) (HIB.out.swap.a) ⟨w0.heap.size, 0, none⟩ 1 1 [.int .i64 x] (by rfl) (by rfl) (hpB) (by simp [Value.oneCell']) hA0 hA2 hA3 (by first | omega | (simp; omega)) _ rfl ?_; intro gA capA wA hownA hgA hatA hltA; have hS := (HIB.out.swap).app (zs := T ++ [x]) (by simpa [ints] using hownA) hgA hatA; have HS := Lib.hid (hS); clear hS hownA hgA hatA hltA) | (refine step_append_lies _ (by rfl) (.tmp 17) (.tmp 20) 23 (by rfl) w.heap.size 3 i0 (.int .i64 0) 1 8 Try.underlying23 hi hz0 hz1 hz2 rfl hA0 u3 k (ints V) (by rfl) ((HIA.out.swap.alloc _).a) ⟨wA.heap.size, 0, none⟩ 1 1 [.int .i64 y] (by rfl) (by rfl) (cell_one_new wA _ 3) (by simp [Value.oneCell']) hA0 hA2 hA3 (by first | omega | (simp; omega)) _ rfl ?_; intro gB capB wB hownB hgB hatB hltB; have hS := (HIA.out.swap.alloc _).app (zs := V ++ [y]) (by simpa [ints] using hownB) hgB hatB; have HS := Lib.hid (hS.swap); clear hS hownB hgB hatB hltB) | (refine step_append_lies _ (by rfl) (.tmp 17) (.tmp 20) 23 (by rfl) w.heap.size 3 i0 (.int .i64 0) 1 8 Try.underlying23 hi hz0 hz1 hz2 rfl hA0 u3 k (ints V) (by rfl) (HIA.out.swap.a) ⟨w0.heap.size + 1, 0, none⟩ 1 1 [.int .i64 y] (by rfl) (by rfl) (hpA) (by simp [Value.oneCell']) hA0 hA2 hA3 (by first | omega | (simp; omega)) _ rfl ?_; intro gB capB wB hownB hgB hatB hltB; have hS := (HIA.out.swap).app (zs := V ++ [y]) (by simpa [ints] using hownB) hgB hatB; have HS := Lib.hid (hS.swap); clear hS hownB hgB hatB hltB) | (refine step_append_lies _ (by rfl) (.tmp 17) (.tmp 20) 23 (by rfl) w.heap.size 3 i0 (.int .i64 0) 1 8 Try.underlying23 hi hz0 hz1 hz2 rfl hA0 u3 k (ints V) (by rfl) (HIA.out.swap.a) ⟨w0.heap.size, 0, none⟩ 1 1 [.int .i64 y] (by rfl) (by rfl) (hpA) (by simp [Value.oneCell']) hA0 hA2 hA3 (by first | omega | (simp; omega)) _ rfl ?_; intro gB capB wB hownB hgB hatB hltB; have hS := (HIA.out.swap).app (zs := V ++ [y]) (by simpa [ints] using hownB) hgB hatB; have HS := Lib.hid (hS.swap); clear hS hownB hgB hatB hltB) | (refine step_append_lies _ (by rfl) (.tmp 12) (.tmp 15) 23 (by rfl) w.heap.size 3 i0 (.int .i64 0) 1 8 Try.underlying23 hi hz0 hz1 hz2 rfl hA0 u2 k (ints T) (by rfl) ((HI.out.alloc _).a) ⟨w0.heap.size, 0, none⟩ 1 1 [.int .i64 x] (by rfl) (by rfl) (cell_one_new w0 _ 3) (by simp [Value.oneCell']) hA0 hA2 hA3 (by first | omega | (simp; omega)) _ rfl ?_; intro gA capA wA hownA hgA hatA hltA; have HIA := Lib.hid (((HI.out.alloc _).drew).app (zs := T ++ [x]) (by simpa [ints] using hownA) hgA hatA); have hsA : w.heap.size ≤ wA.heap.size := HIA.out.bel.size; have eA := (((HAR.out.alloc _).drew).grown hgA hnea); have eA0 := eA.at_ (i := 0) rfl; have eA1 := eA.at_ (i := 1) rfl; clear eA; clear hownA hgA hatA hltA) | (refine step_append_lies _ (by rfl) (.tmp 12) (.tmp 15) 23 (by rfl) w.heap.size 3 i0 (.int .i64 0) 1 8 Try.underlying23 hi hz0 hz1 hz2 rfl hA0 u2 k (ints T) (by rfl) (((HI.out.alloc _).alloc _).a) ⟨w0.heap.size, 0, none⟩ 1 1 [.int .i64 x] (by rfl) (by rfl) (news_past w0 _ _ 3 3) (by simp [Value.oneCell']) hA0 hA2 hA3 (by first | omega | (simp; omega)) _ rfl ?_; intro gA capA wA hownA hgA hatA hltA; have HIA := Lib.hid ((((HI.out.alloc _).alloc _).drew).app (zs := T ++ [x]) (by simpa [ints] using hownA) hgA hatA); have hsA : w.heap.size ≤ wA.heap.size := HIA.out.bel.size; have eA := ((((HAR.out.alloc _).alloc _).drew).grown hgA hnea); have eA0 := eA.at_ (i := 0) rfl; have eA1 := eA.at_ (i := 1) rfl; clear eA; have hpA := pend hgA (news_last w0 _ (.int .i64 y) 3 3) (by simp <;> omega) (by intro h; have := (HI.out.a.lt _ h).2; omega); clear hownA hgA hatA hltA) | (refine step_append_lies _ (by rfl) (.tmp 12) (.tmp 15) 23 (by rfl) w.heap.size 3 i0 (.int .i64 0) 1 8 Try.underlying23 hi hz0 hz1 hz2 rfl hA0 u2 k (ints T) (by rfl) (((HI.out.alloc _).alloc _).a) ⟨w0.heap.size + 1, 0, none⟩ 1 1 [.int .i64 x] (by rfl) (by rfl) (news_last w0 _ _ 3 3) (by simp [Value.oneCell']) hA0 hA2 hA3 (by first | omega | (simp; omega)) _ rfl ?_; intro gA capA wA hownA hgA hatA hltA; have HIA := Lib.hid ((((HI.out.alloc _).alloc _).drew).app (zs := T ++ [x]) (by simpa [ints] using hownA) hgA hatA); have hsA : w.heap.size ≤ wA.heap.size := HIA.out.bel.size; have eA := ((((HAR.out.alloc _).alloc _).drew).grown hgA hnea); have eA0 := eA.at_ (i := 0) rfl; have eA1 := eA.at_ (i := 1) rfl; clear eA; have hpA := pend hgA (news_past w0 (.int .i64 y) _ 3 3) (by simp <;> omega) (by intro h; have := (HI.out.a.lt _ h).2; omega); clear hownA hgA hatA hltA) | (refine step_append_lies _ (by rfl) (.tmp 17) (.tmp 20) 23 (by rfl) w.heap.size 3 i0 (.int .i64 0) 1 8 Try.underlying23 hi hz0 hz1 hz2 rfl hA0 u3 k (ints V) (by rfl) ((HI.out.swap.alloc _).a) ⟨w0.heap.size, 0, none⟩ 1 1 [.int .i64 y] (by rfl) (by rfl) (cell_one_new w0 _ 3) (by simp [Value.oneCell']) hA0 hA2 hA3 (by first | omega | (simp; omega)) _ rfl ?_; intro gB capB wB hownB hgB hatB hltB; have HIB := Lib.hid (((HI.out.swap.alloc _).drew).app (zs := V ++ [y]) (by simpa [ints] using hownB) hgB hatB); have hsB : w.heap.size ≤ wB.heap.size := HIB.out.bel.size; have eB := (((HAR.out.alloc _).drew).grown hgB hneb); have eB0 := eB.at_ (i := 0) rfl; have eB1 := eB.at_ (i := 1) rfl; clear eB; clear hownB hgB hatB hltB) | (refine step_append_lies _ (by rfl) (.tmp 17) (.tmp 20) 23 (by rfl) w.heap.size 3 i0 (.int .i64 0) 1 8 Try.underlying23 hi hz0 hz1 hz2 rfl hA0 u3 k (ints V) (by rfl) (((HI.out.swap.alloc _).alloc _).a) ⟨w0.heap.size, 0, none⟩ 1 1 [.int .i64 y] (by rfl) (by rfl) (news_past w0 _ _ 3 3) (by simp [Value.oneCell']) hA0 hA2 hA3 (by first | omega | (simp; omega)) _ rfl ?_; intro gB capB wB hownB hgB hatB hltB; have HIB := Lib.hid ((((HI.out.swap.alloc _).alloc _).drew).app (zs := V ++ [y]) (by simpa [ints] using hownB) hgB hatB); have hsB : w.heap.size ≤ wB.heap.size := HIB.out.bel.size; have eB := ((((HAR.out.alloc _).alloc _).drew).grown hgB hneb); have eB0 := eB.at_ (i := 0) rfl; have eB1 := eB.at_ (i := 1) rfl; clear eB; have hpB := pend hgB (news_last w0 _ (.int .i64 x) 3 3) (by simp <;> omega) (by intro h; have := (HI.out.swap.a.lt _ h).2; omega); clear hownB hgB hatB hltB) | (refine step_append_lies _ (by rfl) (.tmp 17) (.tmp 20) 23 (by rfl) w.heap.size 3 i0 (.int .i64 0) 1 8 Try.underlying23 hi hz0 hz1 hz2 rfl hA0 u3 k (ints V) (by rfl) (((HI.out.swap.alloc _).alloc _).a) ⟨w0.heap.size + 1, 0, none⟩ 1 1 [.int .i64 y] (by rfl) (by rfl) (news_last w0 _ _ 3 3) (by simp [Value.oneCell']) hA0 hA2 hA3 (by first | omega | (simp; omega)) _ rfl ?_; intro gB capB wB hownB hgB hatB hltB; have HIB := Lib.hid ((((HI.out.swap.alloc _).alloc _).drew).app (zs := V ++ [y]) (by simpa [ints] using hownB) hgB hatB); have hsB : w.heap.size ≤ wB.heap.size := HIB.out.bel.size; have eB := ((((HAR.out.alloc _).alloc _).drew).grown hgB hneb); have eB0 := eB.at_ (i := 0) rfl; have eB1 := eB.at_ (i := 1) rfl; clear eB; have hpB := pend hgB (news_past w0 (.int .i64 x) _ 3 3) (by simp <;> omega) (by intro h; have := (HI.out.swap.a.lt _ h).2; omega); clear hownB hgB hatB hltB))
      all_goals
        go_wp2_with fail
        go_roundw
        case rel => exact ⟨k + 1, by omega, by go_num, by rw [HXY.out.1, HXY.out.2]; exact HS.out⟩
        case measure => simp [intOf]; omega
    · obtain rfl : k = n := by omega
      have HF : Hid (wr.ownsRow w.heap.size 3 1 u2 k (ints (fsts l)) ∧ wr.ownsRow w.heap.size 3 1 u3 k (ints (snds l)) ∧ Below w.heap.size w wr) := by
        have h := HT.out
        rw [List.take_of_length_le (by rw [HL.out]; exact Nat.le_refl _)] at h
        exact ⟨h.a, h.b, h.bel⟩
      go_wp2_with fail
      go_ret2
      exact ⟨u2, u3, rfl, HF.out⟩
end Go.Proofs.Ytnbamngancchmaa
