/-
  The law StepsMore: it returns true.
-/
import Derived.Test.YtcjinmgieiebbaaZStpB
namespace Go.Proofs.Ytcjinmgieiebbaa
set_option linter.unusedSimpArgs false
set_option linter.unusedVariables false
set_option linter.unusedSectionVars false
open Go.RowKit

end Go.Proofs.Ytcjinmgieiebbaa
