/-
  Chapter 7: the reference's Places, Without, Within: by their contracts.
-/
import Derived.Test.YtiabkafgmanhiaaDoorRef7
import Derived.Test.YtiabkafgmanhiaaDoorMachA
namespace Go.Proofs.YtiabkafgmanhiaaDoor
set_option linter.unusedSimpArgs false
set_option linter.unusedVariables false
set_option linter.unusedSectionVars false
open Go.RowKit

end Go.Proofs.YtiabkafgmanhiaaDoor
