/-  Forms of functions.  -/
import Derived.Test.YtbleadagnpckbaaGreatDoorSta
import Derived.Test.YtbleadagnpckbaaGreatDoorStb
