/- What Zig, Zag, Signed and GetSigned answer, and the reference's. Conditions: numbers of 64 bits. -/
import Derived.Test.YtghklmhmhekjgaaRvintg
namespace Go.Proofs.Ytghklmhmhekjgaa
open Go.RowKit PC

/-- A number with a sign as one without. -/
def zig (n : Int) : Nat := if 0 ≤ n then (2 * n).toNat else (-2 * n - 1).toNat
/-- And back. -/
def zag (u : Nat) : Int := if u % 2 = 0 then (u / 2 : Nat) else -((u / 2 : Nat) : Int) - 1
theorem zig_lt {n : Int} (h : -9223372036854775808 ≤ n ∧ n < 9223372036854775808) : zig n < 18446744073709551616 := by
  unfold zig; split <;> omega
theorem zag_zig (n : Int) : zag (zig n) = n := by
  unfold zag zig
  split <;> split <;> omega
theorem zig_zag (u : Nat) : zig (zag u) = u := by
  unfold zag zig
  split <;> split <;> omega

theorem u64_in {x : Int} (h1 : 0 ≤ x) (h2 : x < 18446744073709551616) : IntKind.u64.wrap x = x := by
  rw [show IntKind.u64.wrap x = x % 18446744073709551616 by simp [IntKind.wrap, IntKind.bits, IntKind.signed]]
  omega
theorem ofInt_nat (x : Nat) (hx : x < 18446744073709551616) : (BitVec.ofInt 64 (x : Int)).toNat = x := by
  rw [BitVec.ofInt_natCast, BitVec.toNat_ofNat]; exact Nat.mod_eq_of_lt (by omega)
theorem ones64 : BitVec.ofInt 64 18446744073709551615 = BitVec.allOnes 64 := by decide
theorem ones64' : BitVec.ofInt 64 (-1) = BitVec.allOnes 64 := by decide
theorem u64_not (x : Nat) (hx : x < 18446744073709551616) : bits .xor .u64 (x : Int) 18446744073709551615 = ((18446744073709551615 - x : Nat) : Int) := by
  show IntKind.u64.wrap ((BitVec.ofInt 64 (x : Int) ^^^ BitVec.ofInt 64 18446744073709551615).toNat : Int) = _
  rw [ones64, BitVec.xor_allOnes, BitVec.toNat_not, ofInt_nat x hx, u64_in (by omega) (by omega)]
theorem u64_not' (x : Nat) (hx : x < 18446744073709551616) : bits .xor .u64 IntKind.u64.max (x : Int) = ((18446744073709551615 - x : Nat) : Int) := by
  show IntKind.u64.wrap ((BitVec.ofInt 64 18446744073709551615 ^^^ BitVec.ofInt 64 (x : Int)).toNat : Int) = _
  rw [BitVec.xor_comm, ones64, BitVec.xor_allOnes, BitVec.toNat_not, ofInt_nat x hx, u64_in (by omega) (by omega)]
theorem u64_xor0 (x : Nat) (hx : x < 18446744073709551616) : bits .xor .u64 (x : Int) 0 = (x : Int) := by
  show IntKind.u64.wrap ((BitVec.ofInt 64 (x : Int) ^^^ BitVec.ofInt 64 0).toNat : Int) = _
  rw [show BitVec.ofInt 64 0 = 0#64 from rfl, BitVec.xor_zero, ofInt_nat x hx, u64_in (by omega) (by omega)]
theorem i64_not (x : Nat) (hx : x < 9223372036854775808) : bits .xor .i64 (x : Int) (-1) = -(x : Int) - 1 := by
  show IntKind.i64.wrap ((BitVec.ofInt 64 (x : Int) ^^^ BitVec.ofInt 64 (-1)).toNat : Int) = _
  rw [ones64', BitVec.xor_allOnes, BitVec.toNat_not, ofInt_nat x (by omega), IntKind.wrap_i64]
  omega
theorem i64_xor0 (x : Nat) (hx : x < 9223372036854775808) : bits .xor .i64 (x : Int) 0 = (x : Int) := by
  show IntKind.i64.wrap ((BitVec.ofInt 64 (x : Int) ^^^ BitVec.ofInt 64 0).toNat : Int) = _
  rw [show BitVec.ofInt 64 0 = 0#64 from rfl, BitVec.xor_zero, ofInt_nat x (by omega), IntKind.wrap_i64]
  omega
theorem i64_and1 (n : Int) : bits .and .i64 n 1 = ((PV.un n % 2 : Nat) : Int) := by
  show IntKind.i64.wrap ((BitVec.ofInt 64 n &&& BitVec.ofInt 64 1).toNat : Int) = _
  have h1 : (BitVec.ofInt 64 n).toNat = PV.un n := by rw [BitVec.toNat_ofInt]; rfl
  rw [BitVec.toNat_and, h1, show (BitVec.ofInt 64 1).toNat = 1 from by decide, Nat.and_one_is_mod, IntKind.wrap_i64]
  omega
theorem u64_and1 (x : Nat) (hx : x < 18446744073709551616) : bits .and .u64 (x : Int) 1 = ((x % 2 : Nat) : Int) := by
  have := u64_and_nat x 1 hx (by omega)
  rw [Nat.and_one_is_mod] at this
  exact this

set_option maxRecDepth 100000 in
set_option maxHeartbeats 1000000 in
theorem zig46 (n : Int) (w : World) (hn : -9223372036854775808 ≤ n ∧ n < 9223372036854775808) : Calls Try.prog 46 #[.int .i64 n] w fun e w' => e = .returned (.int .i64 (wrap64 (zig n : Nat))) ∧ w' = w := by
  have hun := u64_wrap_un n
  have hx : wrap64 (bits .xor .u64 (IntKind.u64.wrap ((PV.un n : Int) * 2)) (IntKind.u64.wrap (n / 9223372036854775808))) = wrap64 (zig n : Nat) := by
    congr 1
    have hu : IntKind.u64.wrap ((PV.un n : Int) * 2) = ((PV.un n * 2 % 18446744073709551616 : Nat) : Int) := by
      rw [show ∀ v : Int, IntKind.u64.wrap v = v % 18446744073709551616 from fun v => by simp [IntKind.wrap, IntKind.bits, IntKind.signed]]
      omega
    rw [hu]
    by_cases h0 : 0 ≤ n
    · rw [show n / 9223372036854775808 = 0 by omega, u64_in (by omega) (by omega), u64_xor0 _ (by omega)]
      unfold zig PV.un; rw [if_pos h0]; omega
    · rw [show IntKind.u64.wrap (n / 9223372036854775808) = 18446744073709551615 by
        rw [show ∀ v : Int, IntKind.u64.wrap v = v % 18446744073709551616 from fun v => by simp [IntKind.wrap, IntKind.bits, IntKind.signed]]
        omega, u64_not _ (by omega)]
      unfold zig PV.un; rw [if_neg h0]; omega
  have HX := Lib.hid hx
  clear hx
  go_enter Try.func46, Try.ntmps46
  go_wp2_with fail
  go_ret
  exact ⟨congrArg (fun x => Ending.returned (.int .i64 x)) HX.out, rfl⟩
set_option maxRecDepth 100000 in
set_option maxHeartbeats 1000000 in
theorem rzig47 (n : Int) (w : World) (hn : -9223372036854775808 ≤ n ∧ n < 9223372036854775808) : Calls Try.prog 47 #[.int .i64 n] w fun e w' => e = .returned (.int .i64 (wrap64 (zig n : Nat))) ∧ w' = w := by
  have hun := u64_wrap_un n
  have hu : IntKind.u64.wrap ((PV.un n : Int) * 2) = ((PV.un n * 2 % 18446744073709551616 : Nat) : Int) := by
    rw [show ∀ v : Int, IntKind.u64.wrap v = v % 18446744073709551616 from fun v => by simp [IntKind.wrap, IntKind.bits, IntKind.signed]]
    omega
  by_cases h0 : n < 0
  · have d0 : decide (n < 0) = true := decide_eq_true h0
    have hx : wrap64 (bits .xor .u64 IntKind.u64.max (IntKind.u64.wrap ((PV.un n : Int) * 2))) = wrap64 (zig n : Nat) := by
      congr 1
      rw [hu, u64_not' _ (by omega)]
      unfold zig PV.un; rw [if_neg (by omega)]; omega
    have HX := Lib.hid hx
    clear hx hu
    go_enter Try.func47, Try.ntmps47
    go_wp2_with fail
    go_ret
    exact ⟨congrArg (fun x => Ending.returned (.int .i64 x)) HX.out, rfl⟩
  · have d0 : decide (n < 0) = false := decide_eq_false h0
    have hx : wrap64 (IntKind.u64.wrap ((PV.un n : Int) * 2)) = wrap64 (zig n : Nat) := by
      congr 1
      rw [hu]
      unfold zig PV.un; rw [if_pos (by omega)]; omega
    have HX := Lib.hid hx
    clear hx hu
    go_enter Try.func47, Try.ntmps47
    go_wp2_with fail
    go_ret
    exact ⟨congrArg (fun x => Ending.returned (.int .i64 x)) HX.out, rfl⟩
set_option maxRecDepth 100000 in
set_option maxHeartbeats 1000000 in
theorem zag51 (n : Int) (w : World) (_ : -9223372036854775808 ≤ n ∧ n < 9223372036854775808) : Calls Try.prog 51 #[.int .i64 n] w fun e w' => e = .returned (.int .i64 (zag (PV.un n))) ∧ w' = w := by
  have hun := u64_wrap_un n
  have hx : bits .xor .i64 (wrap64 ((PV.un n : Int) / 2)) (wrap64 (-bits .and .i64 n 1)) = zag (PV.un n) := by
    have hlt := PV.un_lt n
    rw [i64_and1]
    generalize PV.un n = u at *
    rw [show wrap64 ((u : Int) / 2) = ((u / 2 : Nat) : Int) by unfold wrap64; omega]
    unfold zag
    rcases Nat.mod_two_eq_zero_or_one u with h | h
    · rw [h, if_pos rfl, show wrap64 (-((0 : Nat) : Int)) = 0 by unfold wrap64; omega, i64_xor0 _ (by omega)]
    · rw [h, if_neg (by omega), show wrap64 (-((1 : Nat) : Int)) = -1 by unfold wrap64; omega, i64_not _ (by omega)]
  have HX := Lib.hid hx
  clear hx
  go_enter Try.func51, Try.ntmps51
  go_wp2_with fail
  go_ret
  exact ⟨congrArg (fun x => Ending.returned (.int .i64 x)) HX.out, rfl⟩
set_option maxRecDepth 100000 in
set_option maxHeartbeats 1000000 in
theorem rzag45 (n : Int) (w : World) (_ : -9223372036854775808 ≤ n ∧ n < 9223372036854775808) : Calls Try.prog 45 #[.int .i64 n] w fun e w' => e = .returned (.int .i64 (zag (PV.un n))) ∧ w' = w := by
  have hun := u64_wrap_un n
  have hlt := PV.un_lt n
  have hand := u64_and1 (PV.un n) hlt
  by_cases h : PV.un n % 2 = 0
  · have d0 : (bits .and .u64 (PV.un n : Int) 1 == 1) = false := by rw [hand, h]; rfl
    have hx : wrap64 ((PV.un n : Int) / 2) = zag (PV.un n) := by
      unfold zag; rw [if_pos h]; unfold wrap64; omega
    have HX := Lib.hid hx
    clear hx hand h hlt
    go_enter Try.func45, Try.ntmps45
    go_wp2_with fail
    go_ret
    exact ⟨congrArg (fun x => Ending.returned (.int .i64 x)) HX.out, rfl⟩
  · have d0 : (bits .and .u64 (PV.un n : Int) 1 == 1) = true := by rw [hand, show PV.un n % 2 = 1 by omega]; rfl
    have hx : wrap64 (bits .xor .u64 IntKind.u64.max ((PV.un n : Int) / 2)) = zag (PV.un n) := by
      have e : (PV.un n : Int) / 2 = ((PV.un n / 2 : Nat) : Int) := by omega
      rw [e, u64_not' _ (by omega)]
      unfold zag; rw [if_neg h]; unfold wrap64; omega
    have HX := Lib.hid hx
    clear hx hand h hlt
    go_enter Try.func45, Try.ntmps45
    go_wp2_with fail
    go_ret
    exact ⟨congrArg (fun x => Ending.returned (.int .i64 x)) HX.out, rfl⟩

theorem un_wrap {u : Nat} (h : u < 18446744073709551616) : PV.un (wrap64 (u : Int)) = u := by unfold PV.un wrap64; omega

/-- What Signed answers. -/
def SpPost (w : World) (n : Int) (e : Ending) (w' : World) : Prop :=
  ∃ x, e = .returned x ∧ w'.ownsRow w.heap.size 5 1 x (vput (zig n)).length ((vput (zig n)).map bv) ∧ Below w.heap.size w w'

set_option maxRecDepth 100000 in
set_option maxHeartbeats 1000000 in
theorem signed37 (n : Int) (w : World) (hn : -9223372036854775808 ≤ n ∧ n < 9223372036854775808) : Calls Try.prog 37 #[.int .i64 n] w (SpPost w n) := by
  have hz := fun W => zig46 n W hn
  have hp := vint_put (wrap64 (zig n : Nat)) w
  unfold VpPost at hp
  rw [un_wrap (zig_lt hn)] at hp
  go_enter Try.func37, Try.ntmps37
  go_wp2_with fail
  refine (hz _).mono ?_
  rintro e w1 ⟨rfl, hw1⟩
  rw [hw1]
  clear hw1 w1
  go_wp2_with fail
  refine hp.mono ?_
  rintro e w1 ⟨x, rfl, hown, hb⟩
  go_wp2_with fail
  go_ret
  exact ⟨x, rfl, hown, hb⟩
set_option maxRecDepth 100000 in
set_option maxHeartbeats 1000000 in
theorem rsigned39 (n : Int) (w : World) (hn : -9223372036854775808 ≤ n ∧ n < 9223372036854775808) : Calls Try.prog 39 #[.int .i64 n] w (SpPost w n) := by
  have hz := fun W => rzig47 n W hn
  have hp := rvint_put (wrap64 (zig n : Nat)) w
  unfold VpPost at hp
  rw [un_wrap (zig_lt hn)] at hp
  go_enter Try.func39, Try.ntmps39
  go_wp2_with fail
  refine (hz _).mono ?_
  rintro e w1 ⟨rfl, hw1⟩
  rw [hw1]
  clear hw1 w1
  go_wp2_with fail
  refine hp.mono ?_
  rintro e w1 ⟨x, rfl, hown, hb⟩
  go_wp2_with fail
  go_ret
  exact ⟨x, rfl, hown, hb⟩

/-- What GetSigned answers. -/
def SgV (l : List Nat) : Int := match vget l with | some (u, _) => zag u | none => 0
def SgPost (w : World) (l : List Nat) (r : Ending) (w' : World) : Prop := r = .returned (.tuple #[.int .i64 (SgV l), .int .i64 (VgK l), .int .i64 (VgE l)]) ∧ w' = w

set_option maxRecDepth 100000 in
set_option maxHeartbeats 1000000 in
theorem getsigned44 (A : Option Addr) (n c B : Nat) (l : List Nat) (w : World) (hr : Rd w B A n (l.map bv)) (hn : n ≤ 1000000000) (hb : ∀ x ∈ l, x < 256) :
    Calls Try.prog 44 #[.slice A n c] w (SgPost w l) := by
  have hg := vint_get A n c B l w hr hn hb
  unfold VgPost at hg
  cases hv : vget l with
  | none =>
    have e1 : VgV l = 0 := by unfold VgV; rw [hv]
    have e2 : VgK l = 0 := by unfold VgK; rw [hv]
    have e3 : VgE l = 5 := by unfold VgE; rw [hv]; rfl
    have HS := Lib.hid (show SgPost w l (.returned (.tuple #[.int .i64 0, .int .i64 0, .int .i64 5])) w by unfold SgPost SgV; rw [hv, e2, e3]; exact ⟨rfl, rfl⟩)
    rw [e1, e2, e3] at hg
    clear hv e1 e2 e3
    go_enter Try.func44, Try.ntmps44
    go_wp2_with fail
    refine hg.mono ?_
    rintro e w1 ⟨rfl, hw1⟩
    rw [hw1]
    clear hw1 w1
    go_wp2_with fail
    ((try simp only [Exit.inBlock, Exit.then]); refine bodyPost_ret (results_tmp3 rfl _ _ _) rfl ?_)
    exact HS.out
  | some p =>
    obtain ⟨u, k⟩ := p
    have hu := (vget_back hb hv).1
    have e1 : VgV l = wrap64 (u : Int) := by unfold VgV; rw [hv]
    have e2 : VgK l = (k : Int) := by unfold VgK; rw [hv]
    have e3 : VgE l = 0 := by unfold VgE; rw [hv]; rfl
    have HS := Lib.hid (show SgPost w l (.returned (.tuple #[.int .i64 (zag u), .int .i64 (k : Int), .int .i64 0])) w by unfold SgPost SgV; rw [hv, e2, e3]; exact ⟨rfl, rfl⟩)
    rw [e1, e2, e3] at hg
    have hz := zag51 (wrap64 (u : Int)) w (by unfold wrap64; omega)
    rw [un_wrap hu] at hz
    clear hv e1 e2 e3
    go_enter Try.func44, Try.ntmps44
    go_wp2_with fail
    refine hg.mono ?_
    rintro e w1 ⟨rfl, hw1⟩
    rw [hw1]
    clear hw1 w1
    go_wp2_with fail
    refine hz.mono ?_
    rintro e w1 ⟨rfl, hw1⟩
    rw [hw1]
    clear hw1 w1
    go_wp2_with fail
    ((try simp only [Exit.inBlock, Exit.then]); refine bodyPost_ret (results_tmp3 rfl _ _ _) rfl ?_)
    exact HS.out
set_option maxRecDepth 100000 in
set_option maxHeartbeats 1000000 in
theorem rgetsigned33 (A : Option Addr) (n c B : Nat) (l : List Nat) (w : World) (hr : Rd w B A n (l.map bv)) (hn : n ≤ 1000000000) (hb : ∀ x ∈ l, x < 256) :
    Calls Try.prog 33 #[.slice A n c] w (SgPost w l) := by
  have hg := rvint_get A n c B l w hr hn hb
  unfold VgPost at hg
  cases hv : vget l with
  | none =>
    have e1 : VgV l = 0 := by unfold VgV; rw [hv]
    have e2 : VgK l = 0 := by unfold VgK; rw [hv]
    have e3 : VgE l = 5 := by unfold VgE; rw [hv]; rfl
    have HS := Lib.hid (show SgPost w l (.returned (.tuple #[.int .i64 0, .int .i64 0, .int .i64 5])) w by unfold SgPost SgV; rw [hv, e2, e3]; exact ⟨rfl, rfl⟩)
    rw [e1, e2, e3] at hg
    clear hv e1 e2 e3
    go_enter Try.func33, Try.ntmps33
    go_wp2_with fail
    refine hg.mono ?_
    rintro e w1 ⟨rfl, hw1⟩
    rw [hw1]
    clear hw1 w1
    go_wp2_with fail
    ((try simp only [Exit.inBlock, Exit.then]); refine bodyPost_ret (results_tmp3 rfl _ _ _) rfl ?_)
    exact HS.out
  | some p =>
    obtain ⟨u, k⟩ := p
    have hu := (vget_back hb hv).1
    have e1 : VgV l = wrap64 (u : Int) := by unfold VgV; rw [hv]
    have e2 : VgK l = (k : Int) := by unfold VgK; rw [hv]
    have e3 : VgE l = 0 := by unfold VgE; rw [hv]; rfl
    have HS := Lib.hid (show SgPost w l (.returned (.tuple #[.int .i64 (zag u), .int .i64 (k : Int), .int .i64 0])) w by unfold SgPost SgV; rw [hv, e2, e3]; exact ⟨rfl, rfl⟩)
    rw [e1, e2, e3] at hg
    have hz := rzag45 (wrap64 (u : Int)) w (by unfold wrap64; omega)
    rw [un_wrap hu] at hz
    clear hv e1 e2 e3
    go_enter Try.func33, Try.ntmps33
    go_wp2_with fail
    refine hg.mono ?_
    rintro e w1 ⟨rfl, hw1⟩
    rw [hw1]
    clear hw1 w1
    go_wp2_with fail
    refine hz.mono ?_
    rintro e w1 ⟨rfl, hw1⟩
    rw [hw1]
    clear hw1 w1
    go_wp2_with fail
    ((try simp only [Exit.inBlock, Exit.then]); refine bodyPost_ret (results_tmp3 rfl _ _ _) rfl ?_)
    exact HS.out
end Go.Proofs.Ytghklmhmhekjgaa
