/-
  The IR of each function of the seat (by program: irgen.py), and that it is what the translation of the model's code gives.
-/
import Derived.Test.YtcjedgiglimipaaDoorProg
import Derived.Test.YtcjedgiglimipaaDoorZLaws
import Derived.KernelRfl
namespace Go.Proofs.YtcjedgiglimipaaDoor
open Go.RowKit
end Go.Proofs.YtcjedgiglimipaaDoor
