/- What the rows' cell 'laid' gives the walks: labels.errText holds an error. The door's own heap meets it. -/
import Derived.Test.YtlicnadbccjbjaaDoorTie
import Derived.Test.YtlicnadbccjbjaaDoorDunq
import Derived.Test.YtlicnadbccjbjaaDoorOpenL
import Derived.ProofKit
import Derived.LaidMore
import Derived.OpenShut
import Derived.Stop.Joined
import Derived.Stop.LaidErr
import Derived.MakeChecks
namespace Go.Proofs.YtlicnadbccjbjaaDoor
open Go.ChangeShapes Go.WideShapes Go.ChangeAt Go.RowKit
abbrev laidE : List (String × DataW Unit) := [("lysimeter/labels.errText", Rows.laid_lysimeter_labels_errText)]
theorem door_met (os : Os) (args : Array Value) : laidMetH Tryd.prog laidE ((World.doorLaid Tryd.prog 400 os).forCall (fun _ _ => 0) ⟨#[], args, []⟩).memory :=
  laidMetH_of_parts3 (fuel := 8) (laidMet_of_run' 8 (by kernel_rfl) (by kernel_rfl)) (by kernel_rfl) (by kernel_rfl)
theorem starErr : "*" ++ "errors.errorString" = "*errors.errorString" := by decide
theorem Tryd.rowErr (u : TypeId) (h : Tryd.prog.typeName? 3 u = some "*errors.errorString") : u = 94 :=
  typeName_ptr_named (nm := "errors.errorString") (by rw [starErr]; kernel_rfl) (by kernel_rfl) (by decide) u (by rw [starErr]; exact h)
theorem Tryd.cells110 : Tryd.prog.cellsOf 110 = 1 := by kernel_rfl
theorem of_laid {W : World} (h : laidMetH Tryd.prog laidE W) : ∃ ea, W.cell? ⟨0, 0, none⟩ = some (errV ea) ∧ 0 < W.heap.size := by
  rw [MakeChecks.laidMetH_plain _ _ _ (by kernel_rfl)] at h
  have hg : Tryd.prog.globalNamed "lysimeter/labels.errText" = some 0 := by kernel_rfl
  obtain ⟨a, s, hv, _, _, _⟩ := laid_sentinel (P := Tryd.prog) (g := 0) h hg (by kernel_rfl) Tryd.underlying52 Tryd.rowErr Tryd.underlying94 Tryd.underlying110 rfl rfl Tryd.underlying9 Tryd.cells110 Tryd.cells9
  have hc := World.var?_cell hg hv 0
  have hc' : W.cell? ⟨0, 0, none⟩ = some (errV a) := by simpa using hc
  refine ⟨a, hc', ?_⟩
  rcases Nat.eq_zero_or_pos W.heap.size with h0 | h0
  · simp [World.cell?, Array.getElem?_eq_none (show W.heap.size ≤ 0 by omega)] at hc'
  · exact h0
end Go.Proofs.YtlicnadbccjbjaaDoor
