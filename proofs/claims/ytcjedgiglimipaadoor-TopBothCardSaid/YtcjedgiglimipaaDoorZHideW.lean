/-
  Chapter 5: the program's wide: where each state leads to while nothing is seen: rows of sets in one block, each set changed in place: by its contract; and what is seen of a word.
-/
import Derived.Test.YtcjedgiglimipaaDoorZHideR
import Derived.Test.YtcjedgiglimipaaDoorZJoin
import Derived.Test.YtcjedgiglimipaaDoorZWar
namespace Go.Proofs.YtcjedgiglimipaaDoor
set_option linter.unusedSimpArgs false
set_option linter.unusedVariables false
set_option linter.unusedSectionVars false
open Go.RowKit

section
variable {P : Program} {K : Fr → World → Prop} {f : Fr} {d : Option Nat} {u w w' : World} {g : Nat} {t ty e bytes : Nat}
end
section
variable {P : Program} {K : Fr → World → Prop} {f : Fr} {d : Option Nat} {u w w' : World} {g : Nat} {t ty : Nat} {ws : List Nat} {L1 L2 : List Value}
end
end Go.Proofs.YtcjedgiglimipaaDoor
