/-
  Chapter 4's reference: find, leads: by their contracts.
-/
import Derived.Test.YtcjedgiglimipaaDoorZBesC
namespace Go.Proofs.YtcjedgiglimipaaDoor
set_option linter.unusedSimpArgs false
set_option linter.unusedVariables false
set_option linter.unusedSectionVars false
open Go.RowKit

end Go.Proofs.YtcjedgiglimipaaDoor
