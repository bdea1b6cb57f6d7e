/- What values.packer.put and values.Pack do. Conditions: the packer has fewer than a million bits, the difference has 64 bits; Pack: at most 10^9 numbers. -/
import Derived.Test.YtnbamngancchmaaVzeros
import Derived.Test.YtnbamngancchmaaVput
import Derived.Test.YtnbamngancchmaaPack
import Derived.BigQuiet
namespace Go.Proofs.Ytnbamngancchmaa
open Go.RowKit PB PV

/-- A packer at block g: its bits are C, its window win. -/
structure Pk (w : World) (base g : Nat) (cs : Array Value) (sv : Value) (C : List Bool) (win : Option (Nat × Nat)) : Prop where
  wr : Wr w base g 65 3 cs sv C
  some : cs[2]? = some (.bool win.isSome)
  cells : ∃ a b : Nat, cs[0]? = Option.some (.int .i64 (a : Int)) ∧ cs[1]? = Option.some (.int .i64 (b : Int)) ∧ ∀ p, win = Option.some p → p = (a, b)
theorem Wr.kp_arr {w w' : World} {base g o z : Nat} {cs X : Array Value} {sv : Value} {C : List Bool} (h : Wr w base g 65 o cs sv C) (k : Kp (fun k => k = g ∨ sv.ownBlock = some k) w w') (ha : Arr w z 63 X) : Arr w' z 63 X := by
  refine ha.kp k ?_
  rintro (h1 | h1)
  · exact Arr.ne ha h.arr (by decide) h1
  · exact own_ne h.own ha (by decide) h1
theorem Wr.below {w w' : World} {base g t o : Nat} {cs : Array Value} {sv : Value} {C : List Bool} (h : Wr w base g t o cs sv C) (k : Below w.heap.size w w') : Wr w' base g t o cs sv C :=
  ⟨h.arr.below k h.arr.lt, h.hv, h.hn, own_kp (S := fun _ => False) h.own (Kp.none_of_below k) fun _ _ h => h⟩
theorem Pk.off {w w' : World} {base g : Nat} {cs cs' : Array Value} {sv sv' : Value} {C C' : List Bool} {win : Option (Nat × Nat)} (h : Pk w base g cs sv C win) (hw : Wr w' base g 65 3 cs' sv' C') (ho : OffSame 3 cs cs') : Pk w' base g cs' sv' C' win := by
  obtain ⟨a, b, h1, h2, h3⟩ := h.cells
  exact ⟨hw, by rw [ho 2 (by omega) (by omega)]; exact h.some, a, b, by rw [ho 0 (by omega) (by omega)]; exact h1, by rw [ho 1 (by omega) (by omega)]; exact h2, h3⟩
theorem vsizeN_any (a b n : Nat) (w : World) (h : a + b + n = 64) :
    Calls Try.prog 70 #[.agg #[.int .i64 (a : Int), .int .i64 (b : Int)]] w fun e w' => e = .returned (.int .i64 (n : Int)) ∧ Below w.heap.size w w' := by
  have := vsize_any (a : Int) (b : Int) w (by omega) (by omega)
  rw [show (64 : Int) - a - b = (n : Int) by omega] at this
  exact this
/-- What packer.put leaves. -/
def XPost (w : World) (base g : Nat) (sv : Value) (C : List Bool) (win : Option (Nat × Nat)) (w' : World) : Prop :=
  ∃ cs' sv', Pk w' base g cs' sv' C win ∧ Kp (fun k => k = g ∨ sv.ownBlock = some k) w w' ∧ (∀ k, sv'.ownBlock = some k → sv.ownBlock = some k ∨ w.heap.size ≤ k)

/-- From w to w': only block g and the row behind sv are other, and the row behind sv' is that one or new. -/
structure Lk (w : World) (g : Nat) (sv : Value) (w' : World) (sv' : Value) : Prop where
  kp : Kp (fun k => k = g ∨ sv.ownBlock = some k) w w'
  row : ∀ k, sv'.ownBlock = some k → sv.ownBlock = some k ∨ w.heap.size ≤ k
theorem Lk.refl (w : World) (g : Nat) (sv : Value) : Lk w g sv w sv := ⟨Kp.refl _ _, fun _ h => Or.inl h⟩
theorem Lk.below {w w1 w2 : World} {g : Nat} {sv sv1 : Value} (h : Lk w g sv w1 sv1) (hb : Below w1.heap.size w1 w2) : Lk w g sv w2 sv1 :=
  ⟨h.kp.trans (Kp.none_of_below (S := fun _ => False) hb) fun _ _ h => h.elim, h.row⟩
theorem Lk.drew {w w1 : World} {g : Nat} {sv sv1 : Value} (h : Lk w g sv w1 sv1) : Lk w g sv w1.drew sv1 := ⟨h.kp.drew, h.row⟩
theorem Lk.drewN {w w1 : World} {g : Nat} {sv sv1 : Value} (h : Lk w g sv w1 sv1) (n : Nat) : Lk w g sv (w1.drewN n) sv1 := ⟨h.kp.drewN n, h.row⟩
theorem Lk.setG {w w1 : World} {g : Nat} {sv sv1 : Value} (h : Lk w g sv w1 sv1) (i : Nat) (u : Value) : Lk w g sv (w1.setCell ⟨g, i, none⟩ u) sv1 := ⟨h.kp.setCell (Or.inl (Or.inl rfl)) u, h.row⟩
theorem Lk.put {w w1 w2 : World} {g : Nat} {sv sv1 sv2 : Value} (h : Lk w g sv w1 sv1) (hk : Kp (fun k => k = g ∨ sv1.ownBlock = some k) w1 w2) (hr : ∀ k, sv2.ownBlock = some k → sv1.ownBlock = some k ∨ w1.heap.size ≤ k) : Lk w g sv w2 sv2 := by
  refine ⟨h.kp.trans hk ?_, fun k h1 => ?_⟩
  · rintro x hx (h1 | h1)
    · exact Or.inl h1
    · rcases h.row x h1 with h2 | h2
      · exact Or.inr h2
      · omega
  · rcases hr k h1 with h2 | h2
    · exact h.row k h2
    · exact Or.inr (Nat.le_trans h.kp.size h2)
theorem encX_reuse {a b x : Nat} (h0 : x ≠ 0) (h : a ≤ hz x ∧ b ≤ lz x) : encX (some (a, b)) x = ([true, false] ++ putBits (wrap64 ((x / 2 ^ b : Nat) : Int)) (64 - a - b), some (a, b)) := by
  have hr : reuse (some (a, b)) x = some (a, b) := by unfold reuse; simp [h]
  unfold encX
  rw [if_neg h0, hr]
theorem encX_new {win : Option (Nat × Nat)} {x : Nat} (h0 : x ≠ 0) (h : reuse win x = none) :
    encX win x = ([true, true] ++ putBits (hz x : Int) 5 ++ putBits ((64 - hz x - lz x - 1 : Nat) : Int) 6 ++ putBits (wrap64 ((x / 2 ^ lz x : Nat) : Int)) (64 - hz x - lz x), some (hz x, lz x)) := by
  unfold encX
  rw [if_neg h0, h]

theorem wrap_div (x b : Nat) : IntKind.i64.wrap ((x : Int) / 2 ^ b) = wrap64 ((x / 2 ^ b : Nat) : Int) := by
  have e : (x : Int) / 2 ^ b = ((x / 2 ^ b : Nat) : Int) := by rw [Int.natCast_ediv, Int.natCast_pow]; rfl
  rw [e, IntKind.wrap_i64]
  unfold wrap64; omega
theorem Wr.set {w : World} {base g o i : Nat} {cs : Array Value} {sv : Value} {C : List Bool} (h : Wr w base g 65 o cs sv C) (h1 : i ≠ o) (h2 : i ≠ o + 1) (u : Value) : Wr (w.setCell ⟨g, i, none⟩ u) base g 65 o (cs.setIfInBounds i u) sv C :=
  ⟨h.arr.set i u, by rw [setIf_ne h1]; exact h.hv, by rw [setIf_ne h2]; exact h.hn, own_far h.own (own_ne h.own h.arr (by decide)) u⟩

theorem Wr.drewN {w : World} {base g t o : Nat} {cs : Array Value} {sv : Value} {C : List Bool} (h : Wr w base g t o cs sv C) (n : Nat) : Wr (w.drewN n) base g t o cs sv C := ⟨h.arr.drewN n, h.hv, h.hn, h.own⟩

set_option maxRecDepth 100000 in
set_option maxHeartbeats 1000000 in
theorem vput_any (base g x : Nat) (cs : Array Value) (sv : Value) (C : List Bool) (win : Option (Nat × Nat)) (w : World) (hb : base ≤ w.heap.size) (hl : C.length + 80 ≤ 1000000) (hx : x < 18446744073709551616) (hok : OkW win)
    (hp : Pk w base g cs sv C win) :
    Calls Try.prog 40 #[.pointer (some ⟨g, 0, none⟩), .int .u64 (x : Int)] w fun r w' => r = .returned (.tuple #[]) ∧ XPost w base g sv (C ++ (encX win x).1) (encX win x).2 w' := by
  by_cases h0 : x = 0
  · subst h0
    have HP := Lib.hid hp
    have hwr := hp.wr
    clear hp
    go_enter Try.func40, Try.ntmps40
    go_wp2_with fail
    have hq := put_all base g 65 3 1 cs 0 sv C w (by omega) (by decide) hb (by omega) hwr
    refine hq.mono ?_
    rintro r w2 ⟨rfl, cs2, sv2, hw2, hk2, hr2, ho2⟩
    have HR : Hid (XPost w base g sv (C ++ (encX win 0).1) (encX win 0).2 w2) := ⟨cs2, sv2, HP.out.off hw2 ho2, hk2, hr2⟩
    clear hq hw2 hk2 hr2 ho2 hwr
    go_wp2_with fail
    (try simp only [Exit.inBlock, Exit.then])
    refine bodyPost_ret (results_none rfl _ _ _) rfl ?_
    exact ⟨rfl, HR.out⟩
  · have hz1 := vzeros_any x w h0 hx
    have hfit := fits_own h0 hx
    obtain ⟨f1, f2, f3, f4⟩ := hfit
    simp only [] at f1 f2
    have H0 := Lib.hid h0
    have hx0 : ((x : Int) == 0) = false := by simpa using h0
    have HP := Lib.hid hp
    obtain ⟨n, hn⟩ : ∃ n, hz x + lz x + n = 64 := ⟨64 - hz x - lz x, by omega⟩
    obtain ⟨HZ, hHZ⟩ : ∃ HZ, HZ = hz x := ⟨_, rfl⟩
    obtain ⟨LZ, hLZ⟩ : ∃ LZ, LZ = lz x := ⟨_, rfl⟩
    rw [← hHZ, ← hLZ] at hz1 f1 hn
    rw [← hHZ] at f2
    have HHZ := Lib.hid (And.intro hHZ hLZ)
    clear h0 f3 f4 hp hHZ hLZ
    obtain ⟨a, b, hca, hcb, hab⟩ := HP.out.cells
    have HAB := Lib.hid (And.intro hca (And.intro hcb hab))
    clear hca hcb hab
    go_enter Try.func40, Try.ntmps40
    go_wp2_with fail
    refine hz1.mono ?_
    rintro r w1 ⟨rfl, hb1⟩
    go_wp2_with fail
    obtain ⟨w2, hw2⟩ : ∃ w2, w2 = w1.alloc (Obj.cells #[Value.int IntKind.i64 ↑HZ, Value.int IntKind.i64 ↑LZ] 63) := ⟨_, rfl⟩
    obtain ⟨z, hz⟩ : ∃ z, z = w1.heap.size := ⟨_, rfl⟩
    have hB : Below w.heap.size w w2 := by rw [hw2]; exact hb1.alloc hb1.size _
    have hwr2 : Wr w2 base g 65 3 cs sv C := HP.out.wr.below hB
    have az : Arr w2 z 63 #[.int .i64 (HZ : Int), .int .i64 (LZ : Int)] := by rw [hw2, hz]; exact Arr.new _ _ _
    have hzw : w.heap.size ≤ z := by rw [hz]; exact hb1.size
    rw [← hw2, ← hz]
    have hb2 : base ≤ w2.heap.size := Nat.le_trans hb hB.size
    clear hw2 hb1 hz
    have cz0 := az.at_ (i := 0) (v := .int .i64 (HZ : Int)) rfl
    have cz1 := az.at_ (i := 1) (v := .int .i64 (LZ : Int)) rfl
    have ca := hwr2.arr.at_ HAB.out.1
    have cb := hwr2.arr.at_ HAB.out.2.1
    have hsome := hwr2.arr.at_ HP.out.some
    have HW2 := Lib.hid (And.intro hwr2 (And.intro az hB))
    clear hz1
    have f0 := hwr2.arr.frozen 0
    have f1' := hwr2.arr.frozen 1
    have f2' := hwr2.arr.frozen 2
    have hgl := hwr2.arr.lt
    have hzl := az.lt
    have H3 : win = none ∨ (win = some (a, b) ∧ ¬ (a ≤ HZ ∧ b ≤ LZ)) ∨ (win = some (a, b) ∧ (a ≤ HZ ∧ b ≤ LZ)) := by
      cases win with
      | none => exact Or.inl rfl
      | some p =>
        obtain rfl := HAB.out.2.2 p rfl
        rcases Decidable.em (a ≤ HZ ∧ b ≤ LZ) with h | h
        · exact Or.inr (Or.inr ⟨rfl, h⟩)
        · exact Or.inr (Or.inl ⟨rfl, h⟩)
    rcases H3 with rfl | ⟨rfl, hre⟩ | ⟨rfl, hre⟩
    case inr.inr =>
      simp only [Option.isSome_some] at hsome
      have hok2 := hok _ rfl
      simp only [] at hok2
      obtain ⟨k1, k2⟩ := hok2
      have hkeep : ∀ {w' : World}, Below w2.drew.heap.size w2.drew w' → w'.cell? ⟨g, 0, none⟩ = some (.int .i64 a) ∧ w'.cell? ⟨g, 1, none⟩ = some (.int .i64 b) ∧ w'.cell? ⟨g, 2, none⟩ = some (.bool true) ∧ w'.cell? ⟨z, 0, none⟩ = some (.int .i64 HZ) ∧ w'.cell? ⟨z, 1, none⟩ = some (.int .i64 LZ) :=
        fun h => ⟨(h.cell (p := ⟨g, 0, none⟩) hgl).trans ca, (h.cell (p := ⟨g, 1, none⟩) hgl).trans cb, (h.cell (p := ⟨g, 2, none⟩) hgl).trans hsome, (h.cell (p := ⟨z, 0, none⟩) hzl).trans cz0, (h.cell (p := ⟨z, 1, none⟩) hzl).trans cz1⟩
      have hd : decide (a ≤ HZ ∧ b ≤ LZ) = true := by simpa using hre
      have hv := fun w => vhas_any a b HZ LZ w (by omega) (by omega) (by omega) (by omega)
      rw [hd] at hv
      have HENC : Hid (encX (some (a, b)) x = ([true, false] ++ putBits (wrap64 ((x / 2 ^ b : Nat) : Int)) (64 - a - b), some (a, b))) := encX_reuse H0.out (by rw [← HHZ.out.1, ← HHZ.out.2]; exact hre)
      clear hwr2 az hB hre hok
      go_region_held3 (fun w' => w'.cell? ⟨g, 0, none⟩ = some (.int .i64 a) ∧ w'.cell? ⟨g, 1, none⟩ = some (.int .i64 b) ∧ w'.cell? ⟨g, 2, none⟩ = some (.bool true) ∧ w'.cell? ⟨z, 0, none⟩ = some (.int .i64 HZ) ∧ w'.cell? ⟨z, 1, none⟩ = some (.int .i64 LZ)) (first | go_keep | exact hkeep hb3) ((go_at_call 69; refine (hv _).mono ?_; rintro r0 w3 ⟨rfl, hb3⟩))
      rename_i hH
      clear hH hkeep hv hd
      have hL3 : Lk w g sv w3 sv := ((Lk.below (Lk.refl w g sv) HW2.out.2.2).drew).below hb3
      have hwr3 : Wr w3 base g 65 3 cs sv C := HW2.out.1.drew.below hb3
      have hb3' : base ≤ w3.heap.size := Nat.le_trans hb2 hb3.size
      have HL3 := Lib.hid hL3
      clear ca cb cz0 cz1 hsome f0 f1' f2' hgl hzl hb3 hL3 HW2
      go_wp2_with fail
      have hq := put_all base g 65 3 2 cs 2 sv C w3 (by omega) (by decide) hb3' (by omega) hwr3
      refine hq.mono ?_
      rintro r4 w4 ⟨rfl, cs4, sv4, hw4, hk4, hr4, ho4⟩
      have ca := hw4.arr.at_ ((ho4 0 (by omega) (by omega)).trans HAB.out.1)
      have cb := hw4.arr.at_ ((ho4 1 (by omega) (by omega)).trans HAB.out.2.1)
      have HL4 : Hid (Lk w g sv w4 sv4) := HL3.out.put hk4 hr4
      have hb4 : base ≤ w4.heap.size := Nat.le_trans hb3' hk4.size
      have HO4 := Lib.hid ho4
      have hgl := hw4.arr.lt
      obtain ⟨m, hm⟩ : ∃ m, a + b + m = 64 := ⟨64 - a - b, by omega⟩
      obtain ⟨C4, hC4⟩ : ∃ C4, C4 = C ++ putBits 2 2 := ⟨_, rfl⟩
      rw [← hC4] at hw4
      have hl4 : C4.length + 70 ≤ 1000000 := by rw [hC4]; simp [putBits_length]; omega
      have HC4 := Lib.hid hC4
      clear hq hk4 hr4 ho4 hwr3 hC4
      go_wp2_with fail
      have hs := fun w => vsizeN_any a b m w hm
      have hkeep : ∀ {w' : World}, Below w4.drew.heap.size w4.drew w' → w'.cell? ⟨g, 0, none⟩ = some (.int .i64 a) ∧ w'.cell? ⟨g, 1, none⟩ = some (.int .i64 b) :=
        fun h => ⟨(h.cell (p := ⟨g, 0, none⟩) hgl).trans ca, (h.cell (p := ⟨g, 1, none⟩) hgl).trans cb⟩
      go_region_held3 (fun w' => w'.cell? ⟨g, 0, none⟩ = some (.int .i64 a) ∧ w'.cell? ⟨g, 1, none⟩ = some (.int .i64 b)) (first | go_keep | exact hkeep hb5 | exact ⟨hw6.arr.at_ ((ho6 0 (by omega) (by omega)).trans ((HO4.out 0 (by omega) (by omega)).trans HAB.out.1)), hw6.arr.at_ ((ho6 1 (by omega) (by omega)).trans ((HO4.out 1 (by omega) (by omega)).trans HAB.out.2.1))⟩) (first | (go_at_call 70; refine (hs _).mono ?_; rintro r5 w5 ⟨rfl, hb5⟩) | (go_at_call 37; have hw5 := hw4.drew.below hb5; have hq5 := put_all base g 65 3 m cs4 (IntKind.i64.wrap ((x : Int) / 2 ^ b)) sv4 C4 w5 (by omega) (by decide) (Nat.le_trans hb4 hb5.size) (by omega) hw5; refine hq5.mono ?_; rintro r6 w6 ⟨rfl, cs6, sv6, hw6, hk6, hr6, ho6⟩))
      have HR : Hid (XPost w base g sv (C ++ (encX (some (a, b)) x).1) (encX (some (a, b)) x).2 w6) := by
        rw [HENC.out]
        have hL6 := ((HL4.out.drew).below hb5).put hk6 hr6
        have hP4 := HP.out.off hw4 HO4.out
        refine ⟨cs6, sv6, ?_, hL6.kp, hL6.row⟩
        refine hP4.off (C' := C ++ ([true, false] ++ putBits (wrap64 ((x / 2 ^ b : Nat) : Int)) (64 - a - b))) ?_ ho6
        rw [← wrap_div, show 64 - a - b = m by omega, ← List.append_assoc]
        rw [HC4.out] at hw6
        exact hw6
      clear hw6 hk6 hr6 ho6 hw4 hb5 hq5 hw5
      go_wp2_with fail
      (try simp only [Exit.inBlock, Exit.then])
      refine bodyPost_ret (results_none rfl _ _ _) rfl ?_
      exact ⟨rfl, HR.out⟩
    case' inl =>
      simp only [Option.isSome_none] at hsome
      have HENC : Hid (encX none x = ([true, true] ++ putBits (hz x : Int) 5 ++ putBits ((64 - hz x - lz x - 1 : Nat) : Int) 6 ++ putBits (wrap64 ((x / 2 ^ lz x : Nat) : Int)) (64 - hz x - lz x), some (hz x, lz x))) := encX_new H0.out rfl
      clear hwr2 az hB hok
      go_quiet (fail)
      obtain ⟨w3, hw3⟩ : ∃ w3, w3 = w2.drewN nq := ⟨_, rfl⟩
      have hL3 : Lk w g sv w3 sv := by rw [hw3]; exact (Lk.below (Lk.refl w g sv) HW2.out.2.2).drewN nq
      have hwr3 : Wr w3 base g 65 3 cs sv C := by rw [hw3]; exact HW2.out.1.drewN nq
      have az : Arr w3 z 63 #[.int .i64 (HZ : Int), .int .i64 (LZ : Int)] := by rw [hw3]; exact HW2.out.2.1
      have hb3' : base ≤ w3.heap.size := by rw [hw3]; exact hb2
      rw [← hw3]
      clear hw3
    case' inr.inl =>
      simp only [Option.isSome_some] at hsome
      have hok2 := hok _ rfl
      simp only [] at hok2
      obtain ⟨k1, k2⟩ := hok2
      have hkeep : ∀ {w' : World}, Below w2.drew.heap.size w2.drew w' → w'.cell? ⟨g, 0, none⟩ = some (.int .i64 a) ∧ w'.cell? ⟨g, 1, none⟩ = some (.int .i64 b) ∧ w'.cell? ⟨g, 2, none⟩ = some (.bool true) ∧ w'.cell? ⟨z, 0, none⟩ = some (.int .i64 HZ) ∧ w'.cell? ⟨z, 1, none⟩ = some (.int .i64 LZ) :=
        fun h => ⟨(h.cell (p := ⟨g, 0, none⟩) hgl).trans ca, (h.cell (p := ⟨g, 1, none⟩) hgl).trans cb, (h.cell (p := ⟨g, 2, none⟩) hgl).trans hsome, (h.cell (p := ⟨z, 0, none⟩) hzl).trans cz0, (h.cell (p := ⟨z, 1, none⟩) hzl).trans cz1⟩
      have hd : decide (a ≤ HZ ∧ b ≤ LZ) = false := by simpa using hre
      have hv := fun w => vhas_any a b HZ LZ w (by omega) (by omega) (by omega) (by omega)
      rw [hd] at hv
      have HENC : Hid (encX (some (a, b)) x = ([true, true] ++ putBits (hz x : Int) 5 ++ putBits ((64 - hz x - lz x - 1 : Nat) : Int) 6 ++ putBits (wrap64 ((x / 2 ^ lz x : Nat) : Int)) (64 - hz x - lz x), some (hz x, lz x))) := encX_new H0.out (by
        have hre' := hre
        rw [HHZ.out.1, HHZ.out.2] at hre'
        unfold reuse
        simp only [Option.bind_some]
        rw [if_neg hre'])
      clear hwr2 az hB hre hok
      go_region_held3 (fun w' => w'.cell? ⟨g, 0, none⟩ = some (.int .i64 a) ∧ w'.cell? ⟨g, 1, none⟩ = some (.int .i64 b) ∧ w'.cell? ⟨g, 2, none⟩ = some (.bool true) ∧ w'.cell? ⟨z, 0, none⟩ = some (.int .i64 HZ) ∧ w'.cell? ⟨z, 1, none⟩ = some (.int .i64 LZ)) (first | go_keep | exact hkeep hb3) ((go_at_call 69; refine (hv _).mono ?_; rintro r0 w3 ⟨rfl, hb3⟩))
      rename_i hH
      have hL3 : Lk w g sv w3 sv := ((Lk.below (Lk.refl w g sv) HW2.out.2.2).drew).below hb3
      have hwr3 : Wr w3 base g 65 3 cs sv C := HW2.out.1.drew.below hb3
      have az : Arr w3 z 63 #[.int .i64 (HZ : Int), .int .i64 (LZ : Int)] := Arr.below (w := w2.drew) HW2.out.2.1 hb3 hzl
      have hb3' : base ≤ w3.heap.size := Nat.le_trans hb2 hb3.size
      clear hH hkeep hv hd hb3 k1 k2
    all_goals
      have HL3 := Lib.hid hL3
      clear ca cb cz0 cz1 hsome f0 f1' f2' hgl hzl hL3 HW2 hb2
      have ca := hwr3.arr.at_ HAB.out.1
      have cb := hwr3.arr.at_ HAB.out.2.1
      have cc := hwr3.arr.at_ HP.out.some
      have f0 := hwr3.arr.frozen 0
      have f1' := hwr3.arr.frozen 1
      have f2' := hwr3.arr.frozen 2
      have cz0 := az.at_ (i := 0) (v := .int .i64 (HZ : Int)) rfl
      have cz1 := az.at_ (i := 1) (v := .int .i64 (LZ : Int)) rfl
      have hzg : z ≠ g := Arr.ne az hwr3.arr (by decide)
      have HWR3 := Lib.hid (And.intro hwr3 az)
      clear hwr3 az
      go_wp2_with fail
      obtain ⟨w4, hw4⟩ : ∃ w4, w4 = ((w3.setCell ⟨g, 0, none⟩ (Value.int IntKind.i64 ↑HZ)).setCell ⟨g, 1, none⟩ (Value.int IntKind.i64 ↑LZ)).setCell ⟨g, 2, none⟩ (Value.bool true) := ⟨_, rfl⟩
      obtain ⟨cs4, hcs4⟩ : ∃ cs4, cs4 = ((cs.setIfInBounds 0 (Value.int IntKind.i64 ↑HZ)).setIfInBounds 1 (Value.int IntKind.i64 ↑LZ)).setIfInBounds 2 (Value.bool true) := ⟨_, rfl⟩
      have hwr4 : Wr w4 base g 65 3 cs4 sv C := by rw [hw4, hcs4]; exact ((HWR3.out.1.set (by omega) (by omega) _).set (by omega) (by omega) _).set (by omega) (by omega) _
      have HC4 : Hid (cs4[0]? = some (.int .i64 (HZ : Int)) ∧ cs4[1]? = some (.int .i64 (LZ : Int)) ∧ cs4[2]? = some (.bool true)) := by
        rw [hcs4]
        refine ⟨?_, ?_, ?_⟩
        · rw [setIf_ne (by omega), setIf_ne (by omega)]; exact setIf_eq HAB.out.1
        · rw [setIf_ne (by omega)]; exact setIf_eq (by rw [setIf_ne (by omega)]; exact HAB.out.2.1)
        · exact setIf_eq (by rw [setIf_ne (by omega), setIf_ne (by omega)]; exact HP.out.some)
      have az4 : Arr w4 z 63 #[.int .i64 (HZ : Int), .int .i64 (LZ : Int)] := by rw [hw4]; exact ((HWR3.out.2.far (Ne.symm hzg) _).far (Ne.symm hzg) _).far (Ne.symm hzg) _
      have HL4 : Hid (Lk w g sv w4 sv) := by rw [hw4]; exact ((HL3.out.setG _ _).setG _ _).setG _ _
      have hb4 : base ≤ w4.heap.size := Nat.le_trans hb HL4.out.kp.size
      rw [← hw4]
      clear hw4 hcs4 ca cb cc f0 f1' f2' cz0 cz1 HL3 HWR3 hzg hb3' HAB
      have hq := put_all base g 65 3 2 cs4 3 sv C w4 (by omega) (by decide) hb4 (by omega) hwr4
      refine hq.mono ?_
      rintro r5 w5 ⟨rfl, cs5, sv5, hw5, hk5, hr5, ho5⟩
      have az5 := hwr4.kp_arr hk5 az4
      have HL5 : Hid (Lk w g sv w5 sv5) := HL4.out.put hk5 hr5
      have hb5 : base ≤ w5.heap.size := Nat.le_trans hb4 hk5.size
      have HO5 : Hid (OffSame 3 cs4 cs5) := ho5
      obtain ⟨C5, hC5⟩ : ∃ C5, C5 = C ++ putBits 3 2 := ⟨_, rfl⟩
      rw [← hC5] at hw5
      have hl5 : C5.length + 76 ≤ 1000000 := by rw [hC5]; simp [putBits_length]; omega
      have HC5 := Lib.hid hC5
      have cz0 := az5.at_ (i := 0) (v := .int .i64 (HZ : Int)) rfl
      have cz1 := az5.at_ (i := 1) (v := .int .i64 (LZ : Int)) rfl
      clear hq hk5 hr5 ho5 hwr4 hC5 az4 HL4 hb4
      go_wp2_with fail
      go_region_held3 (fun w' => w'.cell? ⟨z, 0, none⟩ = some (.int .i64 HZ) ∧ w'.cell? ⟨z, 1, none⟩ = some (.int .i64 LZ)) (first | go_keep | exact ⟨az6.at_ (i := 0) (v := .int .i64 (HZ : Int)) rfl, az6.at_ (i := 1) (v := .int .i64 (LZ : Int)) rfl⟩) ((go_at_call 37; have hw5' := hw5.drew; have hq5 := put_all base g 65 3 5 cs5 (HZ : Int) sv5 C5 w5.drew (by omega) (by decide) hb5 (by omega) hw5'; refine hq5.mono ?_; rintro r6 w6 ⟨rfl, cs6, sv6, hw6, hk6, hr6, ho6⟩; have az6 := hw5'.kp_arr hk6 (az5.drew)))
      have HL6 : Hid (Lk w g sv w6 sv6) := (HL5.out.drew).put hk6 hr6
      have hb6 : base ≤ w6.heap.size := Nat.le_trans hb5 hk6.size
      have HO6 : Hid (OffSame 3 cs4 cs6) := HO5.out.trans ho6
      obtain ⟨C6, hC6⟩ : ∃ C6, C6 = C5 ++ putBits HZ 5 := ⟨_, rfl⟩
      rw [← hC6] at hw6
      have hl6 : C6.length + 71 ≤ 1000000 := by rw [hC6]; simp [putBits_length]; omega
      have HC6 := Lib.hid hC6
      clear cz0 cz1 hq5 hk6 hr6 ho6 hw5' hw5 hC6 az5 HL5 hb5 HO5
      rename_i hH6
      clear hH6
      have cz0 := az6.at_ (i := 0) (v := .int .i64 (HZ : Int)) rfl
      have cz1 := az6.at_ (i := 1) (v := .int .i64 (LZ : Int)) rfl
      have hzl := az6.lt
      go_wp2_with fail
      have hs := fun w => vsizeN_any HZ LZ n w hn
      have hkeep : ∀ {w' : World}, Below w6.drew.heap.size w6.drew w' → w'.cell? ⟨z, 0, none⟩ = some (.int .i64 HZ) ∧ w'.cell? ⟨z, 1, none⟩ = some (.int .i64 LZ) :=
        fun h => ⟨(h.cell (p := ⟨z, 0, none⟩) hzl).trans cz0, (h.cell (p := ⟨z, 1, none⟩) hzl).trans cz1⟩
      go_region_held3 (fun w' => w'.cell? ⟨z, 0, none⟩ = some (.int .i64 HZ) ∧ w'.cell? ⟨z, 1, none⟩ = some (.int .i64 LZ)) (first | go_keep | exact hkeep hb7 | exact ⟨az8.at_ (i := 0) (v := .int .i64 (HZ : Int)) rfl, az8.at_ (i := 1) (v := .int .i64 (LZ : Int)) rfl⟩) (first | (go_at_call 70; refine (hs _).mono ?_; rintro r7 w7 ⟨rfl, hb7⟩) | (go_at_call 37; have hw7 := hw6.drew.below hb7; have az7 := Arr.below (w := w6.drew) az6 hb7 hzl; have hq7 := put_all base g 65 3 6 cs6 (IntKind.i64.wrap ((n : Int) - 1)) sv6 C6 w7 (by omega) (by decide) (Nat.le_trans hb6 hb7.size) (by omega) hw7; refine hq7.mono ?_; rintro r8 w8 ⟨rfl, cs8, sv8, hw8, hk8, hr8, ho8⟩; have az8 := hw7.kp_arr hk8 az7))
      have HL8 : Hid (Lk w g sv w8 sv8) := ((HL6.out.drew).below hb7).put hk8 hr8
      have hb8 : base ≤ w8.heap.size := Nat.le_trans (Nat.le_trans hb6 hb7.size) hk8.size
      have HO8 : Hid (OffSame 3 cs4 cs8) := HO6.out.trans ho8
      obtain ⟨C8, hC8⟩ : ∃ C8, C8 = C6 ++ putBits (IntKind.i64.wrap ((n : Int) - 1)) 6 := ⟨_, rfl⟩
      rw [← hC8] at hw8
      have hl8 : C8.length + 65 ≤ 1000000 := by rw [hC8]; simp [putBits_length]; omega
      have HC8 := Lib.hid hC8
      clear hkeep hs
      clear cz0 cz1 hq7 hk8 hr8 ho8 hw7 hb7 hw6 hC8 az6 az7 HL6 hb6 HO6 hzl
      have cz0 := az8.at_ (i := 0) (v := .int .i64 (HZ : Int)) rfl
      have cz1 := az8.at_ (i := 1) (v := .int .i64 (LZ : Int)) rfl
      have hzl := az8.lt
      go_wp2_with fail
      have hs := fun w => vsizeN_any HZ LZ n w hn
      have hkeep : ∀ {w' : World}, Below w8.drew.heap.size w8.drew w' → w'.cell? ⟨z, 0, none⟩ = some (.int .i64 HZ) ∧ w'.cell? ⟨z, 1, none⟩ = some (.int .i64 LZ) :=
        fun h => ⟨(h.cell (p := ⟨z, 0, none⟩) hzl).trans cz0, (h.cell (p := ⟨z, 1, none⟩) hzl).trans cz1⟩
      go_region_held3 (fun w' => w'.cell? ⟨z, 0, none⟩ = some (.int .i64 HZ) ∧ w'.cell? ⟨z, 1, none⟩ = some (.int .i64 LZ)) (first | go_keep | exact hkeep hb9 | exact ⟨az10.at_ (i := 0) (v := .int .i64 (HZ : Int)) rfl, az10.at_ (i := 1) (v := .int .i64 (LZ : Int)) rfl⟩) (first | (go_at_call 70; refine (hs _).mono ?_; rintro r9 w9 ⟨rfl, hb9⟩) | (go_at_call 37; have hw9 := hw8.drew.below hb9; have az9 := Arr.below (w := w8.drew) az8 hb9 hzl; have hq9 := put_all base g 65 3 n cs8 (IntKind.i64.wrap ((x : Int) / 2 ^ LZ)) sv8 C8 w9 (by omega) (by decide) (Nat.le_trans hb8 hb9.size) (by omega) hw9; refine hq9.mono ?_; rintro r10 w10 ⟨rfl, cs10, sv10, hw10, hk10, hr10, ho10⟩; have az10 := hw9.kp_arr hk10 az9))
      have HR : Hid (∀ win, encX win x = ([true, true] ++ putBits (hz x : Int) 5 ++ putBits ((64 - hz x - lz x - 1 : Nat) : Int) 6 ++ putBits (wrap64 ((x / 2 ^ lz x : Nat) : Int)) (64 - hz x - lz x), some (hz x, lz x)) → XPost w base g sv (C ++ (encX win x).1) (encX win x).2 w10) := by
        intro win hE
        rw [hE]
        have hL10 := ((HL8.out.drew).below hb9).put hk10 hr10
        have ho := HO8.out.trans ho10
        refine ⟨cs10, sv10, ⟨?_, (ho 2 (by omega) (by omega)).trans HC4.out.2.2, HZ, LZ, (ho 0 (by omega) (by omega)).trans HC4.out.1, (ho 1 (by omega) (by omega)).trans HC4.out.2.1, ?_⟩, hL10.kp, hL10.row⟩
        · rw [HC8.out, HC6.out, HC5.out, IntWalk.i64_in ((n : Int) - 1) (by omega)] at hw10
          rw [← HHZ.out.1, ← HHZ.out.2, ← wrap_div, show ((64 - HZ - LZ - 1 : Nat) : Int) = (n : Int) - 1 by omega, show 64 - HZ - LZ = n by omega]
          simp only [List.append_assoc] at hw10 ⊢
          exact hw10
        · intro p hp
          injection hp with hp
          rw [← hp, HHZ.out.1, HHZ.out.2]
      clear hw10 hk10 hr10 ho10 hw9 hb9 hq9 hw8 az8 az9 az10
      go_wp2_with fail
      go_end0
      exact ⟨rfl, HR.out _ HENC.out⟩
end Go.Proofs.Ytnbamngancchmaa
