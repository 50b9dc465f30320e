/-
  The IR of the functions of the seat, all parts (by program: irgen.py).
-/
import Derived.Test.YtpinjiikiaakaaaDoorZIrA
import Derived.Test.YtpinjiikiaakaaaDoorZIrB
import Derived.Test.YtpinjiikiaakaaaDoorZIrC
