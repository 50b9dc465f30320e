/-
  Chapter 7: the program's Least, Within: by their contracts.
-/
import Derived.Test.YtcjedgiglimipaaDoorZWords
import Derived.Test.YtcjedgiglimipaaDoorZSet
import Derived.Test.YtcjedgiglimipaaDoorZMach
namespace Go.Proofs.YtcjedgiglimipaaDoor
set_option linter.unusedSimpArgs false
set_option linter.unusedVariables false
set_option linter.unusedSectionVars false
open Go.RowKit

end Go.Proofs.YtcjedgiglimipaaDoor
