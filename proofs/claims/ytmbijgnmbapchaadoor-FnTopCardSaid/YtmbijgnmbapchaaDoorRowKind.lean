/-
  Rows of Kind: the contracts of what copies, compares, marks and holds them. Conditions: none. Printed by a program (rowlib.py).
-/
import Derived.Test.YtmbijgnmbapchaaDoorBase
set_option linter.unusedSimpArgs false
set_option linter.unusedVariables false
set_option linter.unusedSectionVars false
namespace Go.Proofs.YtmbijgnmbapchaaDoor
open Go.Abs Go.RowKit

end Go.Proofs.YtmbijgnmbapchaaDoor
