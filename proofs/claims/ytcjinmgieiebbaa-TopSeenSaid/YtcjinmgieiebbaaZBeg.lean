/-
  Chapter 10: the program's Began, which goes over a list from behind: by its contract.
-/
import Derived.Test.YtcjinmgieiebbaaZBack
namespace Go.Proofs.Ytcjinmgieiebbaa
set_option linter.unusedSimpArgs false
set_option linter.unusedVariables false
set_option linter.unusedSectionVars false
open Go.RowKit

end Go.Proofs.Ytcjinmgieiebbaa
