/-
  Chapter 13's reference: find, leads, Twins, Delay: by their contracts.
-/
import Derived.Test.YtfckamjbeplceaaZDelM
import Derived.Test.YtfckamjbeplceaaZSame
import Derived.Test.YtfckamjbeplceaaZReachD
import Derived.Test.YtfckamjbeplceaaZTyB
namespace Go.Proofs.Ytfckamjbeplceaa
set_option linter.unusedSimpArgs false
set_option linter.unusedVariables false
set_option linter.unusedSectionVars false
open Go.RowKit

section
variable {P : Program} {K : Fr → World → Prop} {w : World} {f : Fr} {d : Option Nat} {t ty e sz bytes : Nat}
end

def twA (x : Tw) : Arr := ⟨x.1, x.2.1, (cnt x.2.2 : Int)⟩
abbrev twC (x : Tw) : List Value := arrCells (twA x)
abbrev boC (b : Bool) : List Value := [.bool b]
/-- Two rows side by side: where it leads to, and what counts. -/
structure LQ (B : Nat) (w : World) (A C : Option Addr) (ca cc : Nat) (l : List (Tw × Bool)) : Prop where
  a : OwnR twC B 61 3 w A ca (l.map (·.1))
  c : OwnR boC B 4 1 w C cc (l.map (·.2))
theorem LQ.below {B : Nat} {w w' : World} {A C : Option Addr} {ca cc : Nat} {l : List (Tw × Bool)} (h : LQ B w A C ca cc l) (b : Below w.heap.size w w') : LQ B w' A C ca cc l := ⟨h.a.below b (Nat.le_refl _), h.c.below b (Nat.le_refl _)⟩
end Go.Proofs.Ytfckamjbeplceaa
