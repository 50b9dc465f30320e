/-
  Runs of a machine, and what is seen of them; where a plant may be, and where it may have been, by its runs; who sees more knows more. In plain Lean. No program in sight.
-/
import Derived.Test.YtfckamjbeplceaaZIniP
namespace Go.Proofs.Ytfckamjbeplceaa
set_option linter.unusedSimpArgs false
set_option linter.unusedVariables false
set_option linter.unusedSectionVars false
open Go.RowKit

end Go.Proofs.Ytfckamjbeplceaa
