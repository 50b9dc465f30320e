/- A part of the proof. -/
import Derived.Test.YtcefeihlkpmejaaGreatDoorYIrA
import Derived.Test.YtcefeihlkpmejaaGreatDoorYIrB
import Derived.Test.YtcefeihlkpmejaaGreatDoorYIrC
import Derived.Test.YtcefeihlkpmejaaGreatDoorYIrD

