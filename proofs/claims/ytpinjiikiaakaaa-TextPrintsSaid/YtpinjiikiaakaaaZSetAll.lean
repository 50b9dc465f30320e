/-
  The number of the lowest bit that is set: the library's TrailingZeros64, by its contract, where its table reads as it is laid.
  Chapter 2: the program's All goes over a set's numbers, rising: by its contract.
  Chapter 2: the program's Row: by its contract; After, Accepts.
  Chapter 2: which words are accepted: the program's Accepts, the reference's Word, After, Accepts: by their contracts.
-/
import Derived.Test.YtpinjiikiaakaaaZSet
import Derived.Test.YtpinjiikiaakaaaZOwn
import Derived.RangeFuncNested
import Derived.RangeFuncBox
import Derived.RangeFuncBound
import Derived.RangeFuncCalls
import Derived.RangeFuncLeaves
import Derived.Shelf.Abstract
import Derived.WalkKit
import Derived.OwnWalkIn
import Derived.TacticsInMore
import Derived.LoopNIn
import Derived.LoopIn
import Derived.Test.YtpinjiikiaakaaaZMach
namespace Go.Proofs.Ytpinjiikiaakaaa
set_option linter.unusedSimpArgs false
set_option linter.unusedVariables false
set_option linter.unusedSectionVars false
section
open Go.RowKit

section
variable {P : Program} {K : Fr → World → Prop} {u : World} {f : Fr} {d : Option Nat} {w : World} {t ty : Nat} {xo yo : Operand}
end

end

section
open Go.RowKit Go.Shelf

attribute [local go_sem] Oper.semAt_some

theorem Same.grown {w w' : World} (h : Same w w') : w.grownBy w' none := ⟨h.os, h.tape, h.output, by rw [h.heap]; exact Nat.le_refl _, fun k _ _ => by rw [h.heap]⟩

end

section
open Go.RowKit

/-- A word. -/
def IsWord (m : Mach) (l : List Int) : Prop := ∀ i, i < l.length → 0 ≤ l.getD i 0 ∧ l.getD i 0 < m.events
instance (m : Mach) (l : List Int) : Decidable (IsWord m l) := by unfold IsWord; exact inferInstance
/-- Where runs of a word end. -/
def afterL (m : Mach) (l : List Int) (word : List Int) : List Int := word.foldl (stepL m) l
end

section
open Go.RowKit

def AcceptsL (m : Mach) (word : List Int) : Prop := MeetL (afterL m m.starts word) m.ends
instance (m : Mach) (word : List Int) : Decidable (AcceptsL m word) := by unfold AcceptsL; exact inferInstance
end
end Go.Proofs.Ytpinjiikiaakaaa
