/-
  Chapter 8: the laws LeastTells and LeastFewest: by their contracts.
-/
import Derived.Test.YtcjedgiglimipaaDoorZLea
import Derived.Test.YtcjedgiglimipaaDoorZLawSays
import Derived.Test.YtcjedgiglimipaaDoorZSame
namespace Go.Proofs.YtcjedgiglimipaaDoor
set_option linter.unusedSimpArgs false
set_option linter.unusedVariables false
set_option linter.unusedSectionVars false
open Go.RowKit

abbrev lgM (m : Mach) : Lg := langS m m.starts
theorem least_lens {E : Int} {X : Lg} {o : Mach} (h0 : 0 ≤ E) (h8 : E ≤ 8) (h : LeastOf E X o) : o.May ∧ o.starts.length ≤ 17592186043904 ∧ o.ends.length ≤ 17592186043904 ∧ o.arrows.length ≤ 17592186043904 := by
  have hm := (h.isDet h0 h8).1
  have hf := May.fits hm
  have := hm.2.2.2.2.1
  exact ⟨hm, hf.lenS, hf.lenE, by omega⟩
end Go.Proofs.YtcjedgiglimipaaDoor
