/-  Forms of functions.  -/
import Derived.Test.YtlhjfenpmnejoaaGreatS0
import Derived.Test.YtlhjfenpmnejoaaGreatS1
