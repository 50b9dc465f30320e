/-
  Chapter 8: the laws LeastTells and LeastFewest: by their contracts.
-/
import Derived.Test.YtcjedgiglimipaaDoorZLea
import Derived.Test.YtcjedgiglimipaaDoorZLawSays
import Derived.Test.YtcjedgiglimipaaDoorZSame
namespace Go.Proofs.YtcjedgiglimipaaDoor
set_option linter.unusedSimpArgs false
set_option linter.unusedVariables false
set_option linter.unusedSectionVars false
open Go.RowKit

abbrev lgM (m : Mach) : Lg := langS m m.starts
theorem lgM_acc {m : Mach} {u : List Int} (hu : ∀ x ∈ u, 0 ≤ x ∧ x < m.events) : lgM m u ↔ AcceptsL m u := ⟨fun h => h.2, fun h => ⟨hu, h⟩⟩
theorem isWord_in {m : Mach} {u : List Int} : IsWord m u ↔ ∀ x ∈ u, 0 ≤ x ∧ x < m.events := ⟨fun h x hx => by
  obtain ⟨i, hi, rfl⟩ := (mem_iff_getD u 0 x).1 hx
  exact h i hi, fun h i hi => h _ (getD_mem u 0 i hi)⟩
theorem least_lens {E : Int} {X : Lg} {o : Mach} (h0 : 0 ≤ E) (h8 : E ≤ 8) (h : LeastOf E X o) : o.May ∧ o.starts.length ≤ 17592186043904 ∧ o.ends.length ≤ 17592186043904 ∧ o.arrows.length ≤ 17592186043904 := by
  have hm := (h.isDet h0 h8).1
  have hf := May.fits hm
  have := hm.2.2.2.2.1
  exact ⟨hm, hf.lenS, hf.lenE, by omega⟩
end Go.Proofs.YtcjedgiglimipaaDoor
