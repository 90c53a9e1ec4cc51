/-
  The door: what the rows of this seat tell of the library's own variables, and a world that they fit. Conditions: none.
-/
import Derived.Test.YthadhfogmfcacaaDoorBase
import Derived.Test.YthadhfogmfcacaaDoorAbsLawD
import Derived.Test.YthadhfogmfcacaaDoorLays
import Derived.Test.YthadhfogmfcacaaDoorTie
import Derived.Test.YthadhfogmfcacaaDoorCards
set_option linter.unusedSimpArgs false
set_option linter.unusedVariables false
set_option linter.unusedSectionVars false
namespace Go.Proofs.YthadhfogmfcacaaDoor
open Go.Abs Go.RowKit

noncomputable def doorWorld (os : Os) : World := World.doorLaid Tryd.prog 24 os
theorem doorShaped (os : Os) (args : Array Value) : ((doorWorld os).forCall (fun _ _ => 0) ⟨#[], args, []⟩).Shaped Tryd.prog := World.shaped_of_RefB (by kernel_rfl) (by kernel_rfl)
theorem doorPlain (W : World) : laidMetH Tryd.prog Rows.fnExactLidTextRow.laid W = laidMet Tryd.prog Rows.fnExactLidTextRow.laid W := MakeChecks.laidMetH_plain _ _ _ (by kernel_rfl)
theorem doorMet (os : Os) (args : Array Value) : laidMetH Tryd.prog Rows.fnExactLidTextRow.laid ((doorWorld os).forCall (fun _ _ => 0) ⟨#[], args, []⟩).memory := by
  rw [doorPlain]
  exact laidMet_of_run' 8 (by kernel_rfl) (by kernel_rfl)
theorem doorTabs (W : World) (hs : W.ShapedOpen Tryd.prog) (h : laidMetH Tryd.prog Rows.fnExactLidTextRow.laid W) : Tabs W := by
  rw [doorPlain] at h
  exact laidAt (t := 80) (e := 62) (n := 20) 2 h rfl (by kernel_rfl) (by kernel_rfl) (by kernel_rfl) (by kernel_rfl) (by kernel_rfl) (by kernel_rfl)
end Go.Proofs.YthadhfogmfcacaaDoor
