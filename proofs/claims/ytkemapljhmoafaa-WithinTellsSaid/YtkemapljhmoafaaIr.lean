/-
  The IR of the functions of the seat, all parts (by program: irgen.py).
-/
import Derived.Test.YtkemapljhmoafaaIrA
import Derived.Test.YtkemapljhmoafaaIrB
import Derived.Test.YtkemapljhmoafaaIrC
