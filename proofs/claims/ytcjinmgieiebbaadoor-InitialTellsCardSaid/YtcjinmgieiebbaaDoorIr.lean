/-
  The IR of the functions of the seat, all parts (by program: irgen.py).
-/
import Derived.Test.YtcjinmgieiebbaaDoorIrA
import Derived.Test.YtcjinmgieiebbaaDoorIrB
import Derived.Test.YtcjinmgieiebbaaDoorIrC
