/-
  The table of fours lies as the program's text lays it: what a laid row gives the walks.
-/
import Derived.Test.YtkflikfcpdekdaaDoorSum
import Derived.Test.YtkflikfcpdekdaaDoorOpen
namespace Go.Proofs.YtkflikfcpdekdaaDoor
open Go.ChangeShapes Go.WideShapes Go.ChangeAt Go.RowKit

/-! ### The table -/
theorem gSteps : Tryd.prog.globalNamed "isobar/crc.steps" = some 0 := by kernel_rfl
theorem tSteps : (Tryd.prog.globals[0]?).map (·.type) = some 59 := by kernel_rfl
abbrev laidSteps : List (String × DataW Unit) := [("isobar/crc.steps", Rows.laid_isobar_crc_steps)]
theorem tab_of_laid {W : World} (h : laidMetH Tryd.prog laidSteps W) : Tab W := by
  rw [MakeChecks.laidMetH_plain _ _ _ (by kernel_rfl)] at h
  have hT := Lib.tabIs_of_head (k := .u32) (zs := tab4.map fun n : Nat => (n : Int)) (rest := []) gSteps tSteps Tryd.underlying59 Tryd.underlying26 (by kernel_rfl) (by kernel_rfl) h
  intro i hi
  rw [hT.cell gSteps i (by simpa [tab4] using hi)]
  simp only [List.getD, List.getElem?_map]
  rw [List.getElem?_eq_getElem (show i < tab4.length from hi)]
  rfl
theorem door_met (os : Os) (args : Array Value) : laidMetH Tryd.prog laidSteps ((World.doorLaid Tryd.prog 400 os).forCall (fun _ _ => 0) ⟨#[], args, []⟩).memory :=
  laidMetH_of_parts3 (fuel := 8) (laidMet_of_run' 8 (by kernel_rfl) (by kernel_rfl)) (by kernel_rfl) (by kernel_rfl)

end Go.Proofs.YtkflikfcpdekdaaDoor
