/-
  Chapter 5: the laws HideMakes and HideSees: by their contracts.
-/
import Derived.Test.YtcjedgiglimipaaDoorZHideH
import Derived.Test.YtcjedgiglimipaaDoorZCtlA
namespace Go.Proofs.YtcjedgiglimipaaDoor
set_option linter.unusedSimpArgs false
set_option linter.unusedVariables false
set_option linter.unusedSectionVars false
open Go.RowKit

end Go.Proofs.YtcjedgiglimipaaDoor
