/- Texts of this claim, put together: . -/
import Derived.Test.YtenlngclocfnlaaGreatDoorPaH
import Derived.Test.YtenlngclocfnlaaGreatDoorPaA
import Derived.Deep.RegionHeld3
import Derived.Deep.DeepCutAuto

