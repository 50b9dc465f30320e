/-
  Chapter 14: which rows are safe; which machines a law leaves out: by their contracts.
-/
import Derived.Test.YtcjinmgieiebbaaDoorZMach
import Derived.Test.YtcjinmgieiebbaaDoorZSet
namespace Go.Proofs.YtcjinmgieiebbaaDoor
set_option linter.unusedSimpArgs false
set_option linter.unusedVariables false
set_option linter.unusedSectionVars false
open Go.RowKit

def Mach.Great (m : Mach) : Prop := (40 < m.states ∧ m.states ≤ 256) ∨ (300 < (m.arrows.length : Int) ∧ (m.arrows.length : Int) ≤ 4096)
instance (m : Mach) : Decidable m.Great := inferInstanceAs (Decidable (_ ∨ _))
def SafeL (m : Mach) (free bad l : List Int) : Prop := (∀ x ∈ l, x ∉ bad) ∧ ∀ a ∈ m.arrows, a.frm ∈ l → a.evt ∉ free → a.to_ ∈ l
instance (m : Mach) (free bad l : List Int) : Decidable (SafeL m free bad l) := inferInstanceAs (Decidable (_ ∧ _))

end Go.Proofs.YtcjinmgieiebbaaDoor
