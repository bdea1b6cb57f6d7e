/- The reader of a table's bytes: what its get answers. And: bytes as a text. Conditions: at most 10^9 bytes, each below 256. -/
import Derived.Test.YtghklmhmhekjgaaZig
import Derived.Test.YtghklmhmhekjgaaTput
import Derived.BigQuiet
namespace Go.Proofs.Ytghklmhmhekjgaa
open Go.RowKit PC

/-! ### bytes as a text -/
def strN (l : List Nat) : ByteArray := strOfNums (l.map fun (n : Nat) => (n : Int))
theorem conv_rd {w : World} {B : Nat} {A : Option Addr} {n c : Nat} {l : List Nat} (h : Rd w B A n (l.map bv)) : (convert 36 9 (.slice A n c)).run Try.prog w = .ok (.string (strN l)) w := by
  have hl : l.length = n := by have := h.1; simpa using this
  rcases Nat.eq_zero_or_pos n with h0 | h0
  · subst h0
    have : l = [] := List.eq_nil_of_length_eq_zero hl
    subst this
    rw [run_convert_bytes_string w 36 9 5 A 0 c Try.underlying36 Try.underlying5 Try.underlying9]
    rcases A with _ | ad
    · simp [Conv.bytesToString]; rfl
    · simp [Conv.bytesToString, loadCells, loadCellsFrom]; rfl
  · obtain ⟨b, off, rfl, _, hc⟩ := h.2 h0
    refine run_convert_bytes_arg w 36 5 Try.underlying36 Try.underlying5 b off n c (l.map fun (n : Nat) => (n : Int)) (by simpa using hl) (fun i hi => hc i _ ?_) 9 Try.underlying9
    have hi2 : i < l.length := by omega
    simp [bv, List.getD, hi2]
theorem conv_own {w : World} {base n : Nat} {v : Value} {l : List Nat} (h : w.ownsRow base 5 1 v n (l.map bv)) : (convert 36 9 v).run Try.prog w = .ok (.string (strN l)) w := by
  obtain ⟨A, c, rfl, hr, _⟩ := Rd.of_own h
  exact conv_rd hr

theorem strN_inj {l m : List Nat} (hl : ∀ x ∈ l, x < 256) (hm : ∀ x ∈ m, x < 256) (h : strN l = strN m) : l = m := by
  have h1 : (l.map fun (n : Nat) => UInt8.ofNat n) = m.map fun (n : Nat) => UInt8.ofNat n := by
    have := congrArg (fun s : ByteArray => s.data.toList) h
    simpa [strN, strOfNums, Function.comp_def] using this
  have h2 := congrArg (List.map UInt8.toNat) h1
  rw [List.map_map, List.map_map] at h2
  have e : ∀ k : List Nat, (∀ x ∈ k, x < 256) → k.map (UInt8.toNat ∘ fun (n : Nat) => UInt8.ofNat n) = k := by
    intro k hk
    conv => rhs; rw [← List.map_id k]
    refine List.map_congr_left fun x hx => ?_
    have := hk x hx
    simp [Function.comp]
    omega
  rwa [e l hl, e m hm] at h2
theorem strN_beq {l m : List Nat} (hl : ∀ x ∈ l, x < 256) (hm : ∀ x ∈ m, x < 256) (h : l ≠ m) : ((strN l).toList == (strN m).toList) = false := by
  rw [beq_eq_false_iff_ne, ByteArray.toList_eq, ByteArray.toList_eq]
  intro e
  refine h (strN_inj hl hm ?_)
  have e2 : (strN l).data = (strN m).data := Array.toList_inj.1 e
  cases h1 : strN l; cases h2 : strN m
  rw [h1, h2] at e2
  exact congrArg ByteArray.mk e2
theorem Rd.zero {w : World} {B : Nat} {xs : List Value} (A : Option Addr) (h : xs.length = 0) : Rd w B A 0 xs := ⟨h, fun hn => absurd hn (by omega)⟩
theorem Rd.any0 {w : World} {B m : Nat} {xs : List Value} (A : Option Addr) (hm : m = 0) (h : xs.length = m) : Rd w B A m xs := by subst hm; exact Rd.zero A h
theorem Rd.dropB {w : World} {B n k : Nat} {b off : Nat} {l : List Nat} (h : Rd w B (some ⟨b, off, none⟩) n (l.map bv)) (hk : k ≤ n) : Rd w B (some ⟨b, off + k, none⟩) (n - k) ((l.drop k).map bv) := by
  have hl := h.blen
  refine ⟨by rw [List.length_map, List.length_drop, hl], fun hn => ?_⟩
  obtain ⟨b', off', e, hb, hc⟩ := h.2 (by omega)
  injection e with e
  injection e with e1 e2
  subst e1; subst e2
  refine ⟨b, off + k, rfl, hb, fun j u hu => ?_⟩
  rw [Nat.add_assoc]
  refine hc (k + j) u ?_
  rw [List.map_drop, List.getElem?_drop] at hu
  exact hu
theorem Rd.takeB {w : World} {B n k : Nat} {A : Option Addr} {l : List Nat} (h : Rd w B A n (l.map bv)) (hk : k ≤ n) : Rd w B A k ((l.take k).map bv) := by
  have hl := h.blen
  refine ⟨by rw [List.length_map, List.length_take]; omega, fun hn => ?_⟩
  obtain ⟨b', off', e, hb, hc⟩ := h.2 (by omega)
  refine ⟨b', off', e, hb, fun j u hu => hc j u ?_⟩
  rw [List.map_take, List.getElem?_take] at hu
  split at hu
  · exact hu
  · cases hu

/-- A slice's address: none, or a block's. -/
def Adr (A : Option Addr) (c : Nat) : Prop := (A = none ∧ c = 0) ∨ ∃ b off, A = some ⟨b, off, none⟩
theorem Adr.mk (b off c : Nat) : Adr (some ⟨b, off, none⟩) c := .inr ⟨b, off, rfl⟩
theorem Adr.nil_ : Adr none 0 := .inl ⟨rfl, rfl⟩
/-- A reader: what is left of the bytes, and whether there was a fault. -/
def RS (w : World) (R B : Nat) (bad : Bool) (l : List Nat) : Prop :=
  ∃ A n c, Arr w R 64 #[.slice A n c, .bool bad] ∧ Rd w B A n (l.map bv) ∧ n ≤ c ∧ c ≤ maxLen ∧ n ≤ 1000000000 ∧ (∀ x ∈ l, x < 256) ∧ Adr A c
theorem RS.kp {w w' : World} {R B : Nat} {bad : Bool} {l : List Nat} {S : Nat → Prop} (h : RS w R B bad l) (k : Kp S w w') (hB : B ≤ w.heap.size) (h1 : ¬ S R) (h2 : ∀ x, x < B → ¬ S x) : RS w' R B bad l := by
  obtain ⟨A, n, c, ha, hr, h3⟩ := h
  exact ⟨A, n, c, ha.kp k h1, hr.kp k hB h2, h3⟩

/-- What is left behind a get. -/
def gL (bad : Bool) (l : List Nat) : Bool × List Nat := match vget l with | some (_, k) => (bad, l.drop k) | none => (true, l)
/-- What a get does. -/
def GPost (w : World) (R B : Nat) (bad : Bool) (l : List Nat) (v : Int) (e : Ending) (w' : World) : Prop :=
  e = .returned (.int .i64 v) ∧ RS w' R B (gL bad l).1 (gL bad l).2 ∧ Kp (fun x => x = R) w w'
theorem GPost.none {w w' : World} {R B : Nat} {bad : Bool} {l : List Nat} (hv : vget l = .none) (h : RS w' R B true l) (hk : Kp (fun x => x = R) w w') : GPost w R B bad l 0 (.returned (.int .i64 0)) w' := by
  unfold GPost gL; rw [hv]; exact ⟨rfl, h, hk⟩
theorem GPost.some {w w' : World} {R B : Nat} {bad : Bool} {l : List Nat} {u k : Nat} {v : Int} (hv : vget l = .some (u, k)) (h : RS w' R B bad (l.drop k)) (hk : Kp (fun x => x = R) w w') : GPost w R B bad l v (.returned (.int .i64 v)) w' := by
  unfold GPost gL; rw [hv]; exact ⟨rfl, h, hk⟩

set_option maxRecDepth 100000 in
set_option maxHeartbeats 4000000 in
theorem get28 (R B : Nat) (bad : Bool) (l : List Nat) (w : World) (h : RS w R B bad l) (hB : B ≤ R) :
    Calls Try.prog 28 #[.pointer (some ⟨R, 0, none⟩), .func (.func 29) #[] #[]] w (GPost w R B bad l (VgV l)) := by
  obtain ⟨A, n, c, ha, hr, hnc, hcm, hn9, hlt, hAc⟩ := h
  have hg := vint_get A n c B l w hr hn9 hlt
  unfold VgPost at hg
  have hl := hr.blen
  have c0 : w.cell? ⟨R, 0, none⟩ = some (.slice A n c) := ha.at_ rfl
  have c1 : w.cell? ⟨R, 1, none⟩ = some (.bool bad) := ha.at_ rfl
  have f0 := ha.frozen 0
  have f1 := ha.frozen 1
  cases hv : vget l with
  | none =>
    have e1 : VgV l = 0 := by unfold VgV; rw [hv]
    have e2 : VgK l = 0 := by unfold VgK; rw [hv]
    have e3 : VgE l = 5 := by unfold VgE; rw [hv]; rfl
    rw [e1, e2, e3] at hg
    rw [e1]
    have HE := Lib.hid (GPost.none (bad := bad) (w := w) (w' := w.setCell ⟨R, 1, none⟩ (.bool true)) hv ⟨A, n, c, ha.set 1 (.bool true), hr.keep fun x hx => Below.heap_setCell w _ _ x (by simp; omega), hnc, hcm, hn9, hlt, hAc⟩ ((Kp.refl (fun x => x = R) w).setCell (p := ⟨R, 1, none⟩) (.inl rfl) _))
    clear hv e1 e2 e3 ha hr hlt hAc
    go_enter Try.func28, Try.ntmps28
    go_wp2_with fail
    refine hg.mono ?_
    rintro e w1 ⟨rfl, hw1⟩
    rw [hw1]
    clear hw1 w1
    go_wp2_with fail
    go_ret
    exact HE.out
  | some p =>
    obtain ⟨u, k⟩ := p
    obtain ⟨hu, hku, hkl, htk⟩ := vget_back hlt hv
    have hkn : k ≤ n := by omega
    have e2 : VgK l = (k : Int) := by unfold VgK; rw [hv]
    have e3 : VgE l = 0 := by unfold VgE; rw [hv]; rfl
    rw [e2, e3] at hg
    have z0 : (0 : Int) ≤ (k : Int) := by omega
    have z1 : (k : Int) ≤ (n : Int) := by omega
    have z2 : (n : Int) ≤ (c : Int) := by omega
    have z3 : k ≤ c := by omega
    have hlt2 : ∀ x ∈ l.drop k, x < 256 := fun x hx => hlt x (List.mem_of_mem_drop hx)
    have hkp : 0 < k := by have := (vput_len u).1; have h9 := congrArg List.length htk; rw [List.length_take] at h9; omega
    obtain ⟨b, off, rfl, _⟩ := hr.2 (by omega)
    obtain ⟨V, hV⟩ : ∃ V, V = VgV l := ⟨_, rfl⟩
    rw [← hV] at hg ⊢
    have HE := Lib.hid (fun A' c' => fun (h1 : n - k ≤ c') (h2 : c' ≤ c) (h3 : Rd w B A' (n - k) ((l.drop k).map bv)) (h4 : Adr A' c') => GPost.some (bad := bad) (v := V) (w := w) (w' := w.setCell ⟨R, 0, none⟩ (.slice A' (n - k) c')) hv ⟨A', n - k, c', ha.set 0 _, h3.keep fun x hx => Below.heap_setCell w _ _ x (by simp; omega), h1, by omega, by omega, hlt2, h4⟩ ((Kp.refl (fun x => x = R) w).setCell (p := ⟨R, 0, none⟩) (.inl rfl) _))
    have HR := Lib.hid (hr.dropB hkn)
    have HD := Lib.hid (show ((l.drop k).map bv).length = n - k by rw [List.length_map, List.length_drop, hl])
    clear hv e2 e3 ha hr hlt hlt2 hV hAc htk hkl hu hku hl
    by_cases hck : c = k
    · subst hck
      go_enter Try.func28, Try.ntmps28
      go_wp2_with fail
      refine hg.mono ?_
      rintro e w1 ⟨rfl, hw1⟩
      rw [hw1]
      clear hw1 w1
      go_wp2_with fail
      go_ret
      have e0 : n - c = 0 := by omega
      have H := HE.out (some ⟨b, off, none⟩) 0 (by omega) (by omega) (Rd.any0 _ e0 HD.out) (.mk ..)
      rw [e0] at H
      exact H
    · go_enter Try.func28, Try.ntmps28
      go_wp2_with fail
      refine hg.mono ?_
      rintro e w1 ⟨rfl, hw1⟩
      rw [hw1]
      clear hw1 w1
      go_wp2_with fail
      go_ret
      exact HE.out _ _ (by omega) (by omega) HR.out (.mk ..)
set_option maxRecDepth 100000 in
set_option maxHeartbeats 4000000 in
theorem sget28 (R B : Nat) (bad : Bool) (l : List Nat) (w : World) (h : RS w R B bad l) (hB : B ≤ R) :
    Calls Try.prog 28 #[.pointer (some ⟨R, 0, none⟩), .func (.func 44) #[] #[]] w (GPost w R B bad l (SgV l)) := by
  obtain ⟨A, n, c, ha, hr, hnc, hcm, hn9, hlt, hAc⟩ := h
  have hg := getsigned44 A n c B l w hr hn9 hlt
  unfold SgPost at hg
  have hl := hr.blen
  have c0 : w.cell? ⟨R, 0, none⟩ = some (.slice A n c) := ha.at_ rfl
  have c1 : w.cell? ⟨R, 1, none⟩ = some (.bool bad) := ha.at_ rfl
  have f0 := ha.frozen 0
  have f1 := ha.frozen 1
  cases hv : vget l with
  | none =>
    have e1 : SgV l = 0 := by unfold SgV; rw [hv]
    have e2 : VgK l = 0 := by unfold VgK; rw [hv]
    have e3 : VgE l = 5 := by unfold VgE; rw [hv]; rfl
    rw [e1, e2, e3] at hg
    rw [e1]
    have HE := Lib.hid (GPost.none (bad := bad) (w := w) (w' := w.setCell ⟨R, 1, none⟩ (.bool true)) hv ⟨A, n, c, ha.set 1 (.bool true), hr.keep fun x hx => Below.heap_setCell w _ _ x (by simp; omega), hnc, hcm, hn9, hlt, hAc⟩ ((Kp.refl (fun x => x = R) w).setCell (p := ⟨R, 1, none⟩) (.inl rfl) _))
    clear hv e1 e2 e3 ha hr hlt hAc
    go_enter Try.func28, Try.ntmps28
    go_wp2_with fail
    refine hg.mono ?_
    rintro e w1 ⟨rfl, hw1⟩
    rw [hw1]
    clear hw1 w1
    go_wp2_with fail
    go_ret
    exact HE.out
  | some p =>
    obtain ⟨u, k⟩ := p
    obtain ⟨hu, hku, hkl, htk⟩ := vget_back hlt hv
    have hkn : k ≤ n := by omega
    have e2 : VgK l = (k : Int) := by unfold VgK; rw [hv]
    have e3 : VgE l = 0 := by unfold VgE; rw [hv]; rfl
    rw [e2, e3] at hg
    have z0 : (0 : Int) ≤ (k : Int) := by omega
    have z1 : (k : Int) ≤ (n : Int) := by omega
    have z2 : (n : Int) ≤ (c : Int) := by omega
    have z3 : k ≤ c := by omega
    have hlt2 : ∀ x ∈ l.drop k, x < 256 := fun x hx => hlt x (List.mem_of_mem_drop hx)
    have hkp : 0 < k := by have := (vput_len u).1; have h9 := congrArg List.length htk; rw [List.length_take] at h9; omega
    obtain ⟨b, off, rfl, _⟩ := hr.2 (by omega)
    obtain ⟨V, hV⟩ : ∃ V, V = SgV l := ⟨_, rfl⟩
    rw [← hV] at hg ⊢
    have HE := Lib.hid (fun A' c' => fun (h1 : n - k ≤ c') (h2 : c' ≤ c) (h3 : Rd w B A' (n - k) ((l.drop k).map bv)) (h4 : Adr A' c') => GPost.some (bad := bad) (v := V) (w := w) (w' := w.setCell ⟨R, 0, none⟩ (.slice A' (n - k) c')) hv ⟨A', n - k, c', ha.set 0 _, h3.keep fun x hx => Below.heap_setCell w _ _ x (by simp; omega), h1, by omega, by omega, hlt2, h4⟩ ((Kp.refl (fun x => x = R) w).setCell (p := ⟨R, 0, none⟩) (.inl rfl) _))
    have HR := Lib.hid (hr.dropB hkn)
    have HD := Lib.hid (show ((l.drop k).map bv).length = n - k by rw [List.length_map, List.length_drop, hl])
    clear hv e2 e3 ha hr hlt hlt2 hV hAc htk hkl hu hku hl
    by_cases hck : c = k
    · subst hck
      go_enter Try.func28, Try.ntmps28
      go_wp2_with fail
      refine hg.mono ?_
      rintro e w1 ⟨rfl, hw1⟩
      rw [hw1]
      clear hw1 w1
      go_wp2_with fail
      go_ret
      have e0 : n - c = 0 := by omega
      have H := HE.out (some ⟨b, off, none⟩) 0 (by omega) (by omega) (Rd.any0 _ e0 HD.out) (.mk ..)
      rw [e0] at H
      exact H
    · go_enter Try.func28, Try.ntmps28
      go_wp2_with fail
      refine hg.mono ?_
      rintro e w1 ⟨rfl, hw1⟩
      rw [hw1]
      clear hw1 w1
      go_wp2_with fail
      go_ret
      exact HE.out _ _ (by omega) (by omega) HR.out (.mk ..)
end Go.Proofs.Ytghklmhmhekjgaa
