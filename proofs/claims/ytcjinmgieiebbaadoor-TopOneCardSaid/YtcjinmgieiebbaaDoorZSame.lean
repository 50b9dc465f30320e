/-
  Are two machines the same, two rows of rows: by their contracts.
-/
import Derived.Test.YtcjinmgieiebbaaDoorZDet
import Derived.ChangeKeysEq
namespace Go.Proofs.YtcjinmgieiebbaaDoor
set_option linter.unusedSimpArgs false
set_option linter.unusedVariables false
set_option linter.unusedSectionVars false
open Go.RowKit

end Go.Proofs.YtcjinmgieiebbaaDoor
