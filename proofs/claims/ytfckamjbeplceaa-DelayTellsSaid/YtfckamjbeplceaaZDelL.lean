/-
  Two runs of which the same is seen are a walk of twins; who sees more finds faults no later; in plain Lean. No program in sight.
-/
import Derived.Test.YtfckamjbeplceaaZDelM
import Derived.Test.YtfckamjbeplceaaZObs
import Derived.Test.YtfckamjbeplceaaZRef12L
namespace Go.Proofs.Ytfckamjbeplceaa
set_option linter.unusedSimpArgs false
set_option linter.unusedVariables false
set_option linter.unusedSectionVars false
open Go.RowKit

theorem Pth.cons {T : Type} {E : T → T → Nat → Prop} {s t u : T} {n c k : Nat} (he : E s t c) (h : Pth E t u n k) : Pth E s u (c + n) (k + 1) := ((Pth.snoc .nil he).trans h).cast (by omega) (by omega)
end Go.Proofs.Ytfckamjbeplceaa
