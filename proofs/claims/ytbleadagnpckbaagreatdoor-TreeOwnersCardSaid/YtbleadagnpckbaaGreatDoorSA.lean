/-  Forms of functions.  -/
import Derived.Test.YtbleadagnpckbaaGreatDoorS0
import Derived.Test.YtbleadagnpckbaaGreatDoorS1
import Derived.Test.YtbleadagnpckbaaGreatDoorS2
import Derived.Test.YtbleadagnpckbaaGreatDoorS3
