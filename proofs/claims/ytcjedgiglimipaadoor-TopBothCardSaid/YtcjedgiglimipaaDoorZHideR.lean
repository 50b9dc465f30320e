/-
  Chapter 5's reference: the machine of what is seen: by its contract.
-/
import Derived.Test.YtcjedgiglimipaaDoorZRef5
import Derived.Test.YtcjedgiglimipaaDoorZSame
namespace Go.Proofs.YtcjedgiglimipaaDoor
set_option linter.unusedSimpArgs false
set_option linter.unusedVariables false
set_option linter.unusedSectionVars false
open Go.RowKit

end Go.Proofs.YtcjedgiglimipaaDoor
