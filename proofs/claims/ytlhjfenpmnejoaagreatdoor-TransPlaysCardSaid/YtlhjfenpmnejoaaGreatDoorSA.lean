/-  Forms of functions.  -/
import Derived.Test.YtlhjfenpmnejoaaGreatDoorS0
import Derived.Test.YtlhjfenpmnejoaaGreatDoorS1
import Derived.Test.YtlhjfenpmnejoaaGreatDoorS2
