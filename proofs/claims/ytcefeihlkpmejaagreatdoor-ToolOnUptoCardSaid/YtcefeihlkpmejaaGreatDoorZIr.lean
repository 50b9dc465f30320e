/- A part of the proof. -/
import Derived.Test.YtcefeihlkpmejaaGreatDoorZIrA
import Derived.Test.YtcefeihlkpmejaaGreatDoorZIrB
import Derived.Test.YtcefeihlkpmejaaGreatDoorZIrC
import Derived.Test.YtcefeihlkpmejaaGreatDoorZIrD

