/-
  The IR of the functions of the seat, all parts (by program: irgen.py).
-/
import Derived.Test.YtcjedgiglimipaaDoorZIrA
import Derived.Test.YtcjedgiglimipaaDoorZIrB
import Derived.Test.YtcjedgiglimipaaDoorZIrC
import Derived.Test.YtcjedgiglimipaaDoorZIrD
import Derived.Test.YtcjedgiglimipaaDoorZIrE
