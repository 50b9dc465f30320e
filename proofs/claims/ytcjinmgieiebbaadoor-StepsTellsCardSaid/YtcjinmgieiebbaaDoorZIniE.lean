/-
  The law InitialTells: it returns true.
-/
import Derived.Test.YtcjinmgieiebbaaDoorZIniD
import Derived.Test.YtcjinmgieiebbaaDoorZRef9C
namespace Go.Proofs.YtcjinmgieiebbaaDoor
set_option linter.unusedSimpArgs false
set_option linter.unusedVariables false
set_option linter.unusedSectionVars false
open Go.RowKit

end Go.Proofs.YtcjinmgieiebbaaDoor
