/-
  The laws CurrentTells, CurrentKeeps: they return true.
-/
import Derived.Test.YtcjinmgieiebbaaDoorZCurC
import Derived.Test.YtcjinmgieiebbaaDoorZLawMach
namespace Go.Proofs.YtcjinmgieiebbaaDoor
set_option linter.unusedSimpArgs false
set_option linter.unusedVariables false
set_option linter.unusedSectionVars false
open Go.RowKit

theorem bIter_same {S : Type} [DecidableEq S] {step : S → Int → S} {es : List Int} {first : S} {k k' : Nat} (h : (bIter step es first k).length = k) (h' : (bIter step es first k').length = k') : bIter step es first k = bIter step es first k' := by
  rw [← bIter_stop (Nat.le_of_eq h) (max k k') (Nat.le_max_left _ _), bIter_stop (Nat.le_of_eq h') (max k k') (Nat.le_max_right _ _)]
end Go.Proofs.YtcjinmgieiebbaaDoor
