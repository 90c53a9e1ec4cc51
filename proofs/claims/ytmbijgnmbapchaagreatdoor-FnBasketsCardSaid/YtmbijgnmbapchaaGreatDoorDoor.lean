/-
  The door: what the rows of this seat tell of the library's own variables, and a world that they fit. Conditions: none.
-/
import Derived.Test.YtmbijgnmbapchaaGreatDoorBase
import Derived.Test.YtmbijgnmbapchaaGreatDoorAbsLawD
import Derived.Test.YtmbijgnmbapchaaGreatDoorLays
import Derived.Test.YtmbijgnmbapchaaGreatDoorTie
import Derived.Test.YtmbijgnmbapchaaGreatDoorCards
set_option linter.unusedSimpArgs false
set_option linter.unusedVariables false
set_option linter.unusedSectionVars false
namespace Go.Proofs.YtmbijgnmbapchaaGreatDoor
open Go.Abs Go.RowKit

/-- The numbers of a table of numbers. -/
def numCells : DataW Unit → List Value
  | .agg ds => ds.map fun d => match d with | .lit (.int k z) => .int k z | _ => .bool false
  | _ => []
noncomputable def doorWorld (os : Os) : World :=
  let w0 := World.doorLaid Tryz.prog 34 os
  { w0 with heap := w0.heap.modify 2 fun
      | .cells _ t frozen => .cells (numCells Rows.laid_unicode_utf8_first).toArray t frozen
      | o => o }
theorem doorShaped (os : Os) (args : Array Value) : ((doorWorld os).forCall (fun _ _ => 0) ⟨#[], args, []⟩).Shaped Tryz.prog := World.shaped_of_RefB (by kernel_rfl) (by kernel_rfl)
theorem doorPlain (W : World) : laidMetH Tryz.prog Rows.fnBasketsRow.laid W = laidMet Tryz.prog Rows.fnBasketsRow.laid W := MakeChecks.laidMetH_plain _ _ _ (by kernel_rfl)
theorem doorMet (os : Os) (args : Array Value) : laidMetH Tryz.prog Rows.fnBasketsRow.laid ((doorWorld os).forCall (fun _ _ => 0) ⟨#[], args, []⟩).memory := by
  rw [doorPlain]
  exact laidMet_of_run' 8 (by kernel_rfl) (by kernel_rfl)
theorem doorTabs (W : World) (hs : W.ShapedOpen Tryz.prog) (h : laidMetH Tryz.prog Rows.fnBasketsRow.laid W) : Tabs W := by
  rw [doorPlain] at h
  exact ⟨laidAt (t := 104) (e := 68) (n := 20) 2 h rfl (by kernel_rfl) (by kernel_rfl) (by kernel_rfl) (by kernel_rfl) (by kernel_rfl) (by kernel_rfl), Tryz.laysM146.s1_3 W hs⟩
end Go.Proofs.YtmbijgnmbapchaaGreatDoor
