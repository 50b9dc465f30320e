/-
  Where states lead to, row by row, in place: one row joined to all that have its number, number by number. In plain Lean. No program in sight.
-/
import Derived.Test.YtcjedgiglimipaaDoorZTrim
namespace Go.Proofs.YtcjedgiglimipaaDoor
set_option linter.unusedSimpArgs false
set_option linter.unusedVariables false
set_option linter.unusedSectionVars false
open Go.RowKit

/-- t is in the s-th row. -/
def Mw (L : List (List Int)) (s : Nat) (t : Int) : Prop := t ∈ L.getD s []
noncomputable instance (L : List (List Int)) (s : Nat) (t : Int) : Decidable (Mw L s t) := Classical.propDecidable _
end Go.Proofs.YtcjedgiglimipaaDoor
