/-
  Are two machines the same, two rows of rows: by their contracts.
-/
import Derived.Test.YtfckamjbeplceaaZDet
import Derived.ChangeKeysEq
namespace Go.Proofs.Ytfckamjbeplceaa
set_option linter.unusedSimpArgs false
set_option linter.unusedVariables false
set_option linter.unusedSectionVars false
open Go.RowKit

end Go.Proofs.Ytfckamjbeplceaa
