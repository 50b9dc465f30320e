/-
  Chapter 4's reference: Beside: by its contract.
-/
import Derived.Test.YtcjedgiglimipaaDoorZRef4B
namespace Go.Proofs.YtcjedgiglimipaaDoor
set_option linter.unusedSimpArgs false
set_option linter.unusedVariables false
set_option linter.unusedSectionVars false
open Go.RowKit

end Go.Proofs.YtcjedgiglimipaaDoor
