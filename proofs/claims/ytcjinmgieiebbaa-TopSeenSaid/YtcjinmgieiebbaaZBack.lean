/-
  slices.Backward: by its contract, for a range over a function.
-/
import Derived.Test.YtcjinmgieiebbaaZIn
import Derived.Test.YtcjinmgieiebbaaZSetAll
import Derived.Test.YtcjinmgieiebbaaZIniC
namespace Go.Proofs.Ytcjinmgieiebbaa
set_option linter.unusedSimpArgs false
set_option linter.unusedVariables false
set_option linter.unusedSectionVars false
open Go.RowKit Go.Shelf

attribute [local go_sem] Oper.semAt_some

end Go.Proofs.Ytcjinmgieiebbaa
