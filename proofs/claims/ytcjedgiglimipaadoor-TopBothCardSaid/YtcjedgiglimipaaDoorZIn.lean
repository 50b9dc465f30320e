/-
  The executor inside a round of a range over a function: soundness of a smaller part of it; and pieces of code by themselves. No program in sight.
-/
import Derived.Test.YtcjedgiglimipaaDoorZLaws
import Derived.RangeFuncCalls
import Derived.RangeFuncNested
import Derived.RangeFuncBox
import Derived.RangeFuncLeaves
import Derived.RangeFuncBound
import Derived.WalkKit
import Derived.Shelf.Abstract
import Derived.StillTail
import Derived.OrdersIn
namespace Go.Proofs.YtcjedgiglimipaaDoor
set_option linter.unusedSimpArgs false
set_option linter.unusedVariables false
set_option linter.unusedSectionVars false
open Go.RowKit

section
variable {l m : Nat} {P : Program} {N : Nat} {ds : List Deferred} {Rf : Fr → World → Prop}
end

section
variable {l m : Nat} {P : Program} {ops : Array Oper}
end
section
variable {l m : Nat} {P : Program} {N : Nat} {ds : List Deferred} {Rf : Fr → World → Prop}
end

section
variable {P : Program} {N : Nat} {ds : List Deferred} {Q : Exit → Act → World → Prop} {a : Act} {w : World} {f : Fr}
end

def Clean (w : World) (Ds : List Nat) : Prop := Ds.Nodup ∧ ∀ D ∈ Ds, w.heap[D]? = some (.deferred (some []))
structure But (n g : Nat) (w w' : World) : Prop where
  os : w'.os = w.os
  tape : w'.tape = w.tape
  output : w'.output = w.output
  size : w.heap.size ≤ w'.heap.size
  block : ∀ k, k < n → k ≠ g → w'.heap[k]? = w.heap[k]?
theorem But.refl (n g : Nat) (w : World) : But n g w w := ⟨rfl, rfl, rfl, Nat.le_refl _, fun _ _ _ => rfl⟩
theorem But.trans {n g : Nat} {a b c : World} (h : But n g a b) (k : But n g b c) : But n g a c := ⟨k.os.trans h.os, k.tape.trans h.tape, k.output.trans h.output, Nat.le_trans h.size k.size, fun i hi hg => (k.block i hi hg).trans (h.block i hi hg)⟩
end Go.Proofs.YtcjedgiglimipaaDoor
