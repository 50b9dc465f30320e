/-
  Chapter 5's reference: what unseen events lead to; where a machine may be when an event was seen: by their contracts.
-/
import Derived.Test.YtcjinmgieiebbaaZReachD
import Derived.Test.YtcjinmgieiebbaaZArgs
namespace Go.Proofs.Ytcjinmgieiebbaa
set_option linter.unusedSimpArgs false
set_option linter.unusedVariables false
set_option linter.unusedSectionVars false
open Go.RowKit

end Go.Proofs.Ytcjinmgieiebbaa
