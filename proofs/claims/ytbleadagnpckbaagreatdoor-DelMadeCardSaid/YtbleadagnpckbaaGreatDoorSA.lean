/-  All forms of the functions.  -/
import Derived.Test.YtbleadagnpckbaaGreatDoorS0
import Derived.Test.YtbleadagnpckbaaGreatDoorS1
import Derived.Test.YtbleadagnpckbaaGreatDoorS2
import Derived.Test.YtbleadagnpckbaaGreatDoorS3
import Derived.Test.YtbleadagnpckbaaGreatDoorS4
import Derived.Test.YtbleadagnpckbaaGreatDoorS5
import Derived.Test.YtbleadagnpckbaaGreatDoorS6
import Derived.Test.YtbleadagnpckbaaGreatDoorS7
