/- What the example of chapter 11 answers: true. What Lent answers: labels in memory of their own, with one more behind. -/
import Derived.Test.YtlicnadbccjbjaaDoorText
import Derived.Maps.AppendAt
namespace Go.Proofs.YtlicnadbccjbjaaDoor
open Go.RowKit LB

def sA : ByteArray := ⟨#[97]⟩
def sB : ByteArray := ⟨#[98]⟩
def s1 : ByteArray := ⟨#[49]⟩
def s2 : ByteArray := ⟨#[50]⟩
def lAl : List Lab := [(sB, s2), (sA, s1)]
def mAl : List Lab := [(sA, s1), (sB, s2)]
theorem lt_ba : lt sB sA = false := by unfold lt; rw [ByteArray.toList_eq, ByteArray.toList_eq]; rfl
theorem lt_ab : lt sA sB = true := by unfold lt; rw [ByteArray.toList_eq, ByteArray.toList_eq]; rfl
theorem mk_al : mkL lAl = some mAl := by
  have h1 : labOK (sB, s2) = true := by rfl
  have h2 : labOK (sA, s1) = true := by rfl
  have h3 : ¬ sB = sA := by decide
  simp [mkL, foldL, lAl, stepL, h1, h2, insL, lt_ba, h3, mAl]
theorem mk_al2 : mkL mAl = some mAl := by
  have h1 : labOK (sB, s2) = true := by rfl
  have h2 : labOK (sA, s1) = true := by rfl
  simp [mkL, foldL, mAl, stepL, h1, h2, insL, lt_ab]
theorem text_al : textL mAl = [123, 97, 61, 34, 49, 34, 44, 98, 61, 34, 50, 34, 125] := by
  unfold textL
  rw [mk_al2]
  rfl
theorem lv_lit (w : World) (l : List Lab) (h : 0 < l.length) : Lv (w.alloc (.cells (lv l).toArray 37)) (w.heap.size + 1) (some ⟨w.heap.size, 0, none⟩) l.length l := by
  refine ⟨rfl, fun _ => ⟨w.heap.size, 0, rfl, by omega, fun j u hu => ?_⟩⟩
  rw [Nat.zero_add]
  exact (Arr.new w 37 (lv l).toArray).at_ (by simpa using hu)

set_option maxRecDepth 100000 in
set_option maxHeartbeats 2000000 in
theorem alive_any (w : World) : Calls Tryd.prog 8 #[] w fun e w' => e = .returned (.bool true) ∧ Below w.heap.size w w' := by
  have hq1 := make_any _ 2 2 (w.heap.size + 1) lAl (w.alloc (.cells (lv lAl).toArray 37)) (lv_lit w lAl (by decide)) (by simp)
  have hE : mkE lAl = 0 := by unfold mkE; rw [mk_al]; simp
  have hR : mkR lAl = mAl := by unfold mkR; rw [mk_al]; rfl
  unfold MPost at hq1
  rw [hE, hR, show mAl.length = 2 from rfl] at hq1
  have HQ := Lib.hid hq1
  clear hq1 hE hR
  go_enter Tryd.func8, Tryd.ntmps8
  go_wp2_with (go_at_call 25; refine HQ.out.mono ?_; rintro e w1 ⟨v, rfl, hown, hb⟩)
  obtain ⟨r, cap, cur, rfl, hr⟩ := own_form hown (by decide)
  obtain ⟨A1, c1, hA, hlv, hc1, hc2⟩ := Lv.of_own hown
  injection hA with hA1 hA2 hA3
  subst hA1; subst hA3
  obtain ⟨x0, x1⟩ := own_lab hown (k := 0) (x := (sA, s1)) rfl
  have hq2 := text_any _ 2 cap w1.heap.size mAl w1 hlv (Nat.le_refl _)
  rw [text_al] at hq2
  have e1 : ((⟨#[97]⟩ : ByteArray).toList == (⟨#[97]⟩ : ByteArray).toList) = true := by simp
  have e2 : ((⟨#[123, 97, 61, 34, 49, 34, 44, 98, 61, 34, 50, 34, 125]⟩ : ByteArray).toList == (⟨#[123, 97, 61, 34, 49, 34, 44, 98, 61, 34, 50, 34, 125]⟩ : ByteArray).toList) = true := by simp
  have x0' : w1.cell? ⟨r, 0, none⟩ = some (.string ⟨#[97]⟩) := x0
  clear x0 x1
  go_wp2_with (first | (go_at_call 14; refine (num12 _ _).mono ?_; rintro e w2 ⟨rfl, rfl⟩) | (go_at_call 10; refine hq2.mono ?_; rintro e w2 ⟨rfl, hb2⟩))
  go_ret
  exact ⟨rfl, ((Below.refl _ w).alloc (Nat.le_refl _) _).trans ((hb.mono (by simp)).trans (hb2.mono (by have := hb.size; simp at this; omega)))⟩

/-- append([]T(nil), x...) copies what x reads as into new memory. -/
theorem wpList_copyL {P : Program} {ops : Array Oper} {rest : List Oper} {o : Oper} {a : Act} {w : World} {Q : Exit → Act → World → Prop} (hgd : o.guard = none) (s x : Operand) (t : TypeId)
    (ho : o.op = .call { callee := .builtin .append, args := #[s, x], argTypes := #[t, t] })
    (e : TypeId) (i : TypeInfo) (z : Value) (bytes : Nat) (ht : P.underlying t = some (.slice e)) (hi : P.info? e = some i) (hz : i.zero = some z)
    (hsize : i.size = 2) (hby : i.bytes = bytes) (hzs : z.cells.size = 2) (hs : a.eval s = .slice none 0 0)
    (A : Option Addr) (n c B : Nat) (l : List Lab) (hx : a.eval x = .slice A n c) (hr : Lv w B A n l)
    (hn : n * bytes ≤ 140737488355328) (hn2 : n ≤ maxLen)
    (h : ∀ v' w', w'.ownsRow w.heap.size e 2 v' n (lv l) → Below w.heap.size w w' → wpList P ops Q rest (a.put o.dst v') w') : wpList P ops Q (o :: rest) a w := by
  rcases A with _ | ad
  · obtain ⟨rfl, rfl⟩ := hr.none_zero
    refine wpList_plain hgd fun K hK => ?_
    have hrun : (Builtin.append_ #[t, t] o.type #[.slice none 0 0, .slice none 0 c]).run P w = .ok (.slice none 0 0) w := by
      simp [Builtin.append_, run_underlying ht, sizeOf, typeInfo, hi, Builtin.lenOf, Builtin.firstCells, loadCells, loadCellsFrom]
    unfold Oper.wp execOp
    simp only [ho, resolve, invoke, builtin, Sem.run_bind, Sem.run_pure, Result.andThen_ok, List.map_toArray, List.map_cons, List.map_nil, hs, hx, hrun]
    exact hK _ _ (h _ _ (World.ownsRow_nil _ _ _ _) (Below.refl _ _))
  · refine wpList_append_own_at w hgd s x t ho w.heap.size e i z 2 bytes ht hi hz hsize hby hzs (by omega) _ 0 [] hs (World.ownsRow_nil _ _ _ _) ad n c (lv l) hx (by rw [lv_len, hr.1, Nat.mul_comm]) hr.news (lv_one l) (by omega) (by rw [Nat.zero_add]; exact hn) (Nat.le_refl _) ?_
    intro v' w' hown hg _ _
    rw [Nat.zero_add, List.nil_append] at hown
    exact h v' w' hown ((Below.refl _ _).grown hg (Nat.le_refl _) (fun k hk => by cases hk))
/-- The label that Lent lays behind. -/
def dash : Lab := (⟨#[45]⟩, ⟨#[]⟩)
end Go.Proofs.YtlicnadbccjbjaaDoor
