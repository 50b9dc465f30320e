/-
  Chapter 5's reference: what unseen events lead to; where a machine may be when an event was seen: by their contracts.
-/
import Derived.Test.YtcjinmgieiebbaaReachD
import Derived.Test.YtcjinmgieiebbaaArgs
namespace Go.Proofs.Ytcjinmgieiebbaa
set_option linter.unusedSimpArgs false
set_option linter.unusedVariables false
set_option linter.unusedSectionVars false
open Go.RowKit

theorem wide_snoc {seen : List Int} {m : Mach} {l : List Int} {k j : Nat} (hk : k ≤ l.length) (q : Int) (h : ∀ j, j < k → ∀ p ∈ unE m seen, p.1 = l.getD j 0 → p.2 ∈ l) : ∀ j, j < k → ∀ p ∈ unE m seen, p.1 = (l ++ [q]).getD j 0 → p.2 ∈ l ++ [q] := fun j hj p hp e => by
  rw [getD_append_left _ _ _ _ (by omega)] at e
  exact List.mem_append_left _ (h j hj p hp e)
end Go.Proofs.Ytcjinmgieiebbaa
