/-
  How long a fault may stay unfound: what rounds over all edges tell, and what going on from what has grown tells; in plain Lean. No program in sight.
-/
import Derived.Test.YtfckamjbeplceaaZWalks
namespace Go.Proofs.Ytfckamjbeplceaa
set_option linter.unusedSimpArgs false
set_option linter.unusedVariables false
set_option linter.unusedSectionVars false
open Go.RowKit

def cnt (b : Bool) : Nat := if b then 1 else 0
theorem cnt_le (b : Bool) : cnt b ≤ 1 := by cases b <;> decide
abbrev Eg := Nat × Nat × Bool
section
variable {T : Type} {St : T → Prop} {E : T → T → Nat → Prop} {F : T → Prop}
theorem lt_of_some {α : Type} {l : List α} {i : Nat} {x : α} (h : l[i]? = some x) : i < l.length := by
  rcases Nat.lt_or_ge i l.length with h1 | h1
  · exact h1
  · rw [List.getElem?_eq_none h1] at h; cases h
end
end Go.Proofs.Ytfckamjbeplceaa
