/-
  Chapter 12's reference: Low: a machine without its arrows at high events.
-/
import Derived.Test.YtfckamjbeplceaaZRef12B
namespace Go.Proofs.Ytfckamjbeplceaa
set_option linter.unusedSimpArgs false
set_option linter.unusedVariables false
set_option linter.unusedSectionVars false
open Go.RowKit

end Go.Proofs.Ytfckamjbeplceaa
