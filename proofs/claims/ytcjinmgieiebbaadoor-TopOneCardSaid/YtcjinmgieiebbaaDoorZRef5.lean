/-
  Chapter 5's reference: what unseen events lead to; where a machine may be when an event was seen: by their contracts.
-/
import Derived.Test.YtcjinmgieiebbaaDoorZReachD
import Derived.Test.YtcjinmgieiebbaaDoorZArgs
namespace Go.Proofs.YtcjinmgieiebbaaDoor
set_option linter.unusedSimpArgs false
set_option linter.unusedVariables false
set_option linter.unusedSectionVars false
open Go.RowKit

end Go.Proofs.YtcjinmgieiebbaaDoor
