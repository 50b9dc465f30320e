/-
  Chapter 5's reference: what unseen events lead to; where a machine may be when an event was seen: by their contracts.
-/
import Derived.Test.YtcjedgiglimipaaDoorZReachD
import Derived.Test.YtcjedgiglimipaaDoorZArgs
namespace Go.Proofs.YtcjedgiglimipaaDoor
set_option linter.unusedSimpArgs false
set_option linter.unusedVariables false
set_option linter.unusedSectionVars false
open Go.RowKit

end Go.Proofs.YtcjedgiglimipaaDoor
