/-
  Rows of Lid: the contracts of what copies, compares, marks and holds them. Conditions: none. Printed by a program (rowlib.py).
-/
import Derived.Test.YthadhfogmfcacaaDoorBase
set_option linter.unusedSimpArgs false
set_option linter.unusedVariables false
set_option linter.unusedSectionVars false
namespace Go.Proofs.YthadhfogmfcacaaDoor
open Go.Abs Go.RowKit

theorem toLid_c (p : I3) (m : Mem) : ACalls Tryd.prog 6 [.agg (v3 p).toArray] m (.agg (v3 p).toArray) m := by
  refine acalls_of_vc Tryd.func6 rfl Tryd.fol (by kernel_rfl) ?_
  simp only [Tryd.f6, v3]
  simp -dsimp -implicitDefEqProofs
  exact GC.dropEq rfl rfl
end Go.Proofs.YthadhfogmfcacaaDoor
