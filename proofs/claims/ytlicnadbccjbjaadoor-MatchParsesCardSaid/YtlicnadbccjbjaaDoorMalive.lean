/- What the examples of chapter 12 answer: true. A slice of matchers among a law's arguments, opened. No conditions. -/
import Derived.Test.YtlicnadbccjbjaaDoorMtext
import Derived.Test.YtlicnadbccjbjaaDoorOpenL
namespace Go.Proofs.YtlicnadbccjbjaaDoor
open Go.ChangeShapes Go.WideShapes Go.ChangeAt Go.RowKit Go.Deep LB

def sJob : ByteArray := ⟨#[106, 111, 98]⟩
def sApi : ByteArray := ⟨#[97, 112, 105]⟩
def sHost : ByteArray := ⟨#[104, 111, 115, 116]⟩
def sX : ByteArray := ⟨#[120]⟩
def lM : List Mat := [(1, sJob, sApi), (3, sHost, ⟨#[97]⟩)]
def lM2 : List Mat := [(2, sJob, sX)]
def lL2 : List Lab := [(⟨#[97]⟩, ⟨#[49]⟩)]
theorem chk_lM : chkE lM = 0 := by rfl
theorem text_lM : mtextL lM = [106, 111, 98, 61, 34, 97, 112, 105, 34, 44, 104, 111, 115, 116, 94, 61, 34, 97, 34] := by rfl
theorem fits_lM2 : fitsB lM2 lL2 = true := by
  have h1 : chkE lM2 = 0 := by rfl
  have h2 : valL lL2 sJob = none := by
    have : ¬ ((⟨#[97]⟩ : ByteArray) = sJob) := by decide
    simp [valL, lL2, this]
  have h3 : ¬ ((⟨#[]⟩ : ByteArray) = sX) := by decide
  unfold fitsB
  rw [h1]
  simp [lM2, fit1, h2, h3]
theorem fits_lM : fitsB lM [] = false := by
  have h3 : ¬ ((⟨#[]⟩ : ByteArray) = sApi) := by decide
  unfold fitsB
  simp [lM, fit1, valL, h3]

set_option maxRecDepth 100000 in
set_option maxHeartbeats 2000000 in
theorem alive16 (w : World) : Calls Tryd.prog 17 #[] w fun e w' => e = .returned (.bool true) ∧ Below w.heap.size w w' := by
  have hq1 := mtext30 _ 2 2 (w.heap.size + 1) lM (w.alloc (.cells (mv lM).toArray 64)) (mv_lit w 64 lM (by decide)) (by simp)
  rw [text_lM] at hq1
  have hl1 := mv_lit w 64 lM (by decide)
  have HL1 := Lib.hid hl1
  have HQ1 := Lib.hid hq1
  have e1 : ((⟨#[106, 111, 98, 61, 34, 97, 112, 105, 34, 44, 104, 111, 115, 116, 94, 61, 34, 97, 34]⟩ : ByteArray).toList == (⟨#[106, 111, 98, 61, 34, 97, 112, 105, 34, 44, 104, 111, 115, 116, 94, 61, 34, 97, 34]⟩ : ByteArray).toList) = true := by simp
  clear hq1 hl1
  go_enter Tryd.func17, Tryd.ntmps17
  go_wp2_with fail
  refine HQ1.out.mono ?_
  rintro e w1 ⟨rfl, hb1⟩
  have hs1 := hb1.size
  simp only [World.size_alloc] at hs1
  have hm2 := mv_lit w1 64 lM2 (by decide)
  have hm3 := lv_lit (w1.alloc (.cells (mv lM2).toArray 64)) lL2 (by decide)
  rw [World.size_alloc] at hm3
  have hq2 := fits21 _ 1 1 (w1.heap.size + 1) lM2 _ 1 1 (w1.heap.size + 1 + 1) lL2 ((w1.alloc (.cells (mv lM2).toArray 64)).alloc (.cells (lv lL2).toArray 37)) (hm2.below ((Below.refl _ _).alloc (by simp) _)) (by simp) hm3 (by simp) (by decide)
  rw [fits_lM2] at hq2
  have HQ2 := Lib.hid hq2
  clear hq2 hm2 hm3
  go_wp2_with fail
  refine HQ2.out.mono ?_
  rintro e w2 ⟨rfl, hb2⟩
  have hs2 := hb2.size
  simp only [World.size_alloc] at hs2
  have hb12 : Below (w.heap.size + 1) (w.alloc (.cells (mv lM).toArray 64)) w2 := (((hb1.mono (by simp)).alloc (by omega) _).alloc (by simp; omega) _).trans (hb2.mono (by simp; omega))
  have hq3 := fits21 _ 2 2 (w.heap.size + 1) lM none 0 0 0 [] w2 (HL1.out.below hb12) (by omega) (Lv.any0 rfl _ _ _) (by omega) (by decide)
  rw [fits_lM] at hq3
  have HQ3 := Lib.hid hq3
  clear hq3
  go_wp2_with fail
  refine HQ3.out.mono ?_
  rintro e w3 ⟨rfl, hb3⟩
  go_wp2_with fail
  go_ret
  exact ⟨rfl, ((Below.refl _ w).alloc (Nat.le_refl _) _).trans ((hb12.mono (by omega)).trans (hb3.mono (by omega)))⟩
end Go.Proofs.YtlicnadbccjbjaaDoor
