/-
  The law WithinSays: what within.Within tells is the least word between, or there is none: it returns true.
-/
import Derived.Test.YtcjedgiglimipaaDoorZRef7
import Derived.Test.YtcjedgiglimipaaDoorZLawMach
import Derived.Test.YtcjedgiglimipaaDoorZBfs
namespace Go.Proofs.YtcjedgiglimipaaDoor
set_option linter.unusedSimpArgs false
set_option linter.unusedVariables false
set_option linter.unusedSectionVars false
open Go.RowKit

end Go.Proofs.YtcjedgiglimipaaDoor
