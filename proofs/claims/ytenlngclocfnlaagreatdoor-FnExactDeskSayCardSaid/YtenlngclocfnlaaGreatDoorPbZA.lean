/- Texts of this claim, put together: . -/
import Derived.Test.YtenlngclocfnlaaGreatDoorPbH
import Derived.Test.YtenlngclocfnlaaGreatDoorPbA
import Derived.Deep.RegionHeld3
import Derived.Deep.DeepCutAuto

