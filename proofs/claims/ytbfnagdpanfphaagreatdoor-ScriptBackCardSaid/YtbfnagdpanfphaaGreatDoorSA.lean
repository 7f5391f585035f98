/-  Forms of functions.  -/
import Derived.Test.YtbfnagdpanfphaaGreatDoorS0
import Derived.Test.YtbfnagdpanfphaaGreatDoorS1
import Derived.Test.YtbfnagdpanfphaaGreatDoorS2
import Derived.Test.YtbfnagdpanfphaaGreatDoorS3
