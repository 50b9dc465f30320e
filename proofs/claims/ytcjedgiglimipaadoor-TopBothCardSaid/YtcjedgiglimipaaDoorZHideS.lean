/-
  Chapter 5: what is seen of a word: the program and the reference: by their contracts.
-/
import Derived.Test.YtcjedgiglimipaaDoorZHideW
namespace Go.Proofs.YtcjedgiglimipaaDoor
set_option linter.unusedSimpArgs false
set_option linter.unusedVariables false
set_option linter.unusedSectionVars false
open Go.RowKit

end Go.Proofs.YtcjedgiglimipaaDoor
