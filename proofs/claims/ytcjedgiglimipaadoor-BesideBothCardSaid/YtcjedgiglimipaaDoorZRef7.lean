/-
  Chapter 7: the reference's places: by their contracts.
  Chapter 7: the reference's Places, Without, Within: by their contracts.
  Chapter 7: the reference's Without, Within; the program's Within; the law WithinTells.
  Chapter 7: the program's Within and the reference's; the law WithinTells: it returns true.
-/
import Derived.Test.YtcjedgiglimipaaDoorZWithin
import Derived.Test.YtcjedgiglimipaaDoorZRow
import Derived.Test.YtcjedgiglimipaaDoorZMach
namespace Go.Proofs.YtcjedgiglimipaaDoor
set_option linter.unusedSimpArgs false
set_option linter.unusedVariables false
set_option linter.unusedSectionVars false
section
open Go.RowKit

structure P7 where
  A : Option Addr
  ca : Nat
  a : List Int
  B : Option Addr
  cb : Nat
  b : List Int
  W : Option Addr
  cw : Nat
  w : List Int
def P7.cells (p : P7) : List Value := [.slice p.A p.a.length p.ca, .slice p.B p.b.length p.cb, .slice p.W p.w.length p.cw]
structure P7.Good (B e : Nat) (w : World) (p : P7) : Prop where
  a : RowT B e w p.A p.a
  b : RowT B e w p.B p.b
  w : RowT B e w p.W p.w
  n : p.a.length ≤ 2147483648 ∧ p.b.length ≤ 2147483648 ∧ p.w.length ≤ 2147483648
theorem P7.Good.below {B e : Nat} {w w' : World} {p : P7} (h : P7.Good B e w p) (hb : Below w.heap.size w w') : P7.Good B e w' p := ⟨h.a.below hb, h.b.below hb, h.w.below hb, h.n⟩

end

section
open Go.RowKit

end

section
open Go.RowKit

end

section
open Go.RowKit

end
end Go.Proofs.YtcjedgiglimipaaDoor
