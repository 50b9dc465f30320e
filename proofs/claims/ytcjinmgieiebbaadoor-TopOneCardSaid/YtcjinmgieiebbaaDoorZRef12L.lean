/-
  Chapter 12's reference: Low: a machine without its arrows at high events.
-/
import Derived.Test.YtcjinmgieiebbaaDoorZRef12B
namespace Go.Proofs.YtcjinmgieiebbaaDoor
set_option linter.unusedSimpArgs false
set_option linter.unusedVariables false
set_option linter.unusedSectionVars false
open Go.RowKit

end Go.Proofs.YtcjinmgieiebbaaDoor
