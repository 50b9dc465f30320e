/-
  Chapter 5: the program's all: what sets have, joined over a set's numbers: by its contract.
-/
import Derived.Test.YtcjedgiglimipaaDoorZIn
import Derived.Test.YtcjedgiglimipaaDoorZJoin
import Derived.Test.YtcjedgiglimipaaDoorZSetAll
namespace Go.Proofs.YtcjedgiglimipaaDoor
set_option linter.unusedSimpArgs false
set_option linter.unusedVariables false
set_option linter.unusedSectionVars false
open Go.RowKit

theorem blk_grown' {g t : Nat} {cs : List Value} {W W' : World} {row : Option Nat} (h : Blk W g t cs) (hg : W.grownBy W' row) (hr : ∀ r, row = some r → ∃ o : Obj, W.heap[r]? = some o ∧ o.isCells = false) : Blk W' g t cs :=
  (hg.block g h.lt (fun e => by
    obtain ⟨o, ho, hc⟩ := hr g e.symm
    rw [show W.heap[g]? = _ from h] at ho
    cases ho; cases hc)).trans h
end Go.Proofs.YtcjedgiglimipaaDoor
