/- What stamps.Pack answers: the error, and the bytes in new memory. Conditions: at most 10^9 times. -/
import Derived.Test.YtnbamngancchmaaClone
namespace Go.Proofs.Ytnbamngancchmaa
open Go.RowKit PB PS

theorem Wr.made (w : World) (base t : Nat) : Wr (w.alloc (.cells #[.slice none 0 0, .int .i64 0] t)) base w.heap.size t 0 #[.slice none 0 0, .int .i64 0] (.slice none 0 0) [] :=
  ⟨Arr.new _ _ _, rfl, rfl, World.ownsRow_nil _ _ _ _⟩

theorem dprev_b {l : List Int} {n k : Nat} (hg : good l n = true) (hk : k < n + 1) : -18014398509481984 ≤ dprev l k ∧ dprev l k ≤ 18014398509481984 := by
  unfold dprev
  split
  · omega
  · have h1 := goodAt_b (good_at hg (i := k - 1) (by omega))
    have h2 := goodAt_b (good_at hg (i := k - 2) (by omega))
    omega

/-- What Pack answers. -/
def PackPost (w : World) (l : List Int) (r : Ending) (w' : World) : Prop :=
  ∃ v, r = .returned (.tuple #[v, .int .i64 (packE l)]) ∧ w'.ownsRow w.heap.size 5 1 v (packB l).length ((packB l).map bv) ∧ Below w.heap.size w w'

set_option maxRecDepth 100000 in
set_option maxHeartbeats 1000000 in
theorem pack_any (A : Option Addr) (n c B : Nat) (l : List Int) (w : World) (hr : Rd w B A n (ints l)) (hB : B ≤ w.heap.size) (hn : n ≤ 1000000000) :
    Calls Try.prog 13 #[.slice A n c] w (PackPost w l) := by
  have hl := hr.len
  have hcheck := check_any A n c B l w hr hn
  by_cases he : packE l = 0
  · obtain ⟨h120, hgood⟩ := packE_zero.1 he
    have HL := Lib.hid hl
    have HE := Lib.hid he
    have HG := Lib.hid hgood
    rw [hl] at h120
    rw [he] at hcheck
    clear hl he hgood
    go_enter Try.func13, Try.ntmps13
    go_wp2_with fail
    refine hcheck.mono ?_
    rintro e w' ⟨rfl, rfl⟩
    go_wp2_with fail
    go_loopw [6, 18] (fun d i wr => ∃ (k : Nat) (cs : Array Value) (sv : Value), k ≤ n ∧ i = .int .i64 k ∧ d = .int .i64 (dprev l k) ∧ Wr wr w'.heap.size w'.heap.size 57 0 cs sv (enc l k) ∧ Below w'.heap.size w' wr) (fun _ i _ => n - (intOf i).toNat)
    case atStart => exact ⟨0, _, _, Nat.zero_le _, rfl, rfl, Wr.made _ _ _, (Below.refl _ _).alloc (Nat.le_refl _) _⟩
    case round =>
      obtain ⟨k, cs, sv, hk, rfl, rfl, hwr, hbl⟩ := hrel
      have henc := enc_le l k
      by_cases hlt : k < n
      · obtain ⟨b, off, rfl, hb, hc⟩ := (hr.below (hbl.mono hB)).int hlt
        have hck := hc k hlt
        have hcp := hc (k - 1) (by omega)
        have gk := goodAt_b (good_at HG.out (i := k) (by rw [HL.out]; omega))
        obtain ⟨x, hx⟩ : ∃ x, x = l.getD k 0 := ⟨_, rfl⟩
        rw [← hx] at hck gk
        have HX := Lib.hid hx
        clear hx hc
        obtain ⟨g1, g2, g3⟩ := gk
        rcases Nat.eq_zero_or_pos k with h0 | h0
        · subst h0
          clear g3
          rw [Nat.add_zero] at hck
          go_wp2_with fail
          have hq := put_any w'.heap.size w'.heap.size 57 0 64 cs x sv (enc l 0) wr (by omega) (by decide) hbl.size (by omega) hwr
          refine hq.mono ?_
          rintro r w2 ⟨rfl, hp⟩
          obtain ⟨cs2, sv2, hwr2, hkp2, _⟩ := hp
          have HW : Hid (Wr w2 w'.heap.size w'.heap.size 57 0 cs2 sv2 (enc l (0 + 1)) ∧ Below w'.heap.size w' w2) := by
            refine ⟨?_, hbl.trans (hkp2.below hbl.size ?_)⟩
            · rw [enc_succ]
              have : encAt l 0 = putBits x 64 := by rw [HX.out]; rfl
              rw [this]; exact hwr2
            · rintro y hy (h | h)
              · omega
              · have := hwr.own.lt _ h; omega
          clear hq hwr2 hkp2 hwr hbl hck hcp
          go_wp2_with fail
          go_roundw
          case rel => exact ⟨1, cs2, sv2, by omega, by go_num, rfl, HW.out.1, HW.out.2⟩
          case measure => simp [intOf]; omega
        · have gp := goodAt_b (good_at HG.out (i := k - 1) (by rw [HL.out]; omega))
          have hdp : Hid (-18014398509481984 ≤ dprev l k ∧ dprev l k ≤ 18014398509481984) := dprev_b HG.out (by rw [HL.out]; omega)
          obtain ⟨hd1, hd2⟩ := hdp.out
          obtain ⟨y, hy⟩ : ∃ y, y = l.getD (k - 1) 0 := ⟨_, rfl⟩
          rw [← hy] at hcp gp
          obtain ⟨d, hd⟩ : ∃ d, d = dprev l k := ⟨_, rfl⟩
          rw [← hd] at hd1 hd2 ⊢
          have HY := Lib.hid hy
          have HD := Lib.hid hd
          obtain ⟨gp1, gp2, _⟩ := gp
          clear hy hd hdp g3
          go_wp2_with fail
          have hq := sput_any w'.heap.size w'.heap.size 57 0 cs (x - y - d) sv (enc l k) wr (by decide) hbl.size (by omega) (by omega) hwr
          refine hq.mono ?_
          rintro r w2 ⟨rfl, hp⟩
          obtain ⟨cs2, sv2, hwr2, hkp2, _⟩ := hp
          have hb2 : Below w'.heap.size wr w2 := by
            refine hkp2.below hbl.size ?_
            rintro y hy (h | h)
            · omega
            · have := hwr.own.lt _ h; omega
          have HW : Hid (Wr w2 w'.heap.size w'.heap.size 57 0 cs2 sv2 (enc l (k + 1)) ∧ Below w'.heap.size w' w2) := by
            refine ⟨?_, hbl.trans hb2⟩
            rw [enc_succ]
            have : encAt l k = encDiff (x - y - d) := by rw [HX.out, HY.out, HD.out]; unfold encAt; rw [if_neg (by omega)]
            rw [this]; exact hwr2
          have HDN : Hid (dprev l (k + 1) = x - y) := by
            show _ = _
            rw [HX.out, HY.out]; unfold dprev; rw [if_neg (by omega)]; rfl
          have hbB : b < w'.heap.size := by omega
          have hck2 := (hb2.cell (p := ⟨b, off + k, none⟩) hbB).trans hck
          have hcp2 := (hb2.cell (p := ⟨b, off + (k - 1), none⟩) hbB).trans hcp
          clear hq hwr2 hkp2 hwr hbl hck hcp hb2
          go_wp2_with fail
          go_roundw
          case rel => exact ⟨k + 1, cs2, sv2, by omega, by go_num, by rw [HDN.out], HW.out.1, HW.out.2⟩
          case measure => simp [intOf]; omega
      · obtain rfl : k = n := by omega
        have hby := bytes_any w'.heap.size w'.heap.size 57 0 cs sv (enc l k) wr hwr (by omega)
        have HB : Hid (packB l = bytesOf (enc l k) ∧ packE l = 0) := ⟨by unfold packB; rw [if_pos HE.out, HL.out], HE.out⟩
        go_wp2_with fail
        refine hby.mono ?_
        rintro r w2 ⟨v, rfl, hown, hb2⟩
        have HF : Hid (w2.ownsRow w'.heap.size 5 1 v (packB l).length ((packB l).map bv) ∧ Below w'.heap.size w' w2) := by
          rw [HB.out.1]
          exact ⟨own_base hown hbl.size, hbl.trans (hb2.mono hbl.size)⟩
        clear hown hb2 hby hwr hbl
        go_wp2_with fail
        go_ret2
        refine ⟨v, ?_, HF.out.1, HF.out.2⟩
        rw [HB.out.2]; rfl
  · have HE := Lib.hid he
    clear hl
    have hne : (packE l == 0) = false := by simpa using he
    have HB : Hid (packB l = []) := by show _ = _; unfold packB; rw [if_neg he]
    clear he
    go_enter Try.func13, Try.ntmps13
    go_wp2_with fail
    refine hcheck.mono ?_
    rintro e w' ⟨rfl, rfl⟩
    go_wp2_with fail
    go_ret2
    refine ⟨.slice none 0 0, rfl, ?_, Below.refl _ _⟩
    rw [HB.out]
    exact World.ownsRow_nil _ _ _ _
end Go.Proofs.Ytnbamngancchmaa
