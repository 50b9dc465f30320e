/-
  Are two machines the same, two rows of rows: by their contracts.
-/
import Derived.Test.YtcjedgiglimipaaDoorZDet
import Derived.ChangeKeysEq
namespace Go.Proofs.YtcjedgiglimipaaDoor
set_option linter.unusedSimpArgs false
set_option linter.unusedVariables false
set_option linter.unusedSectionVars false
open Go.RowKit

end Go.Proofs.YtcjedgiglimipaaDoor
