/-
  Chapter 5: the laws BesideMakes, BesideBoth and TopBoth: by their contracts.
-/
import Derived.Test.YtcjedgiglimipaaDoorZRef4C
import Derived.Test.YtcjedgiglimipaaDoorZLawHid
import Derived.Test.YtcjedgiglimipaaDoorZLawSays
namespace Go.Proofs.YtcjedgiglimipaaDoor
set_option linter.unusedSimpArgs false
set_option linter.unusedVariables false
set_option linter.unusedSectionVars false
open Go.RowKit

theorem Recs.up {α : Type} {enc : α → List Value} {sz : Nat} {w w' : World} {A : Option Addr} {l : List α} (h : Recs enc sz (· < w.heap.size) w A l) (b : Below w.heap.size w w') : Recs enc sz (· < w'.heap.size) w' A l :=
  h.keep' fun g hg => ⟨b.block g hg, Nat.lt_of_lt_of_le hg b.size⟩
theorem RowsAt.up {w w' : World} {hs : List Hd} (h : RowsAt (· < w.heap.size) w hs) (b : Below w.heap.size w w') : RowsAt (· < w'.heap.size) w' hs :=
  h.keep fun g hg => ⟨b.block g hg, Nat.lt_of_lt_of_le hg b.size⟩

end Go.Proofs.YtcjedgiglimipaaDoor
