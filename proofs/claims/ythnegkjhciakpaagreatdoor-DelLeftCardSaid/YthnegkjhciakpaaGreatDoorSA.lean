/-  Forms of functions.  -/
import Derived.Test.YthnegkjhciakpaaGreatDoorS0
import Derived.Test.YthnegkjhciakpaaGreatDoorS1
import Derived.Test.YthnegkjhciakpaaGreatDoorS2
import Derived.Test.YthnegkjhciakpaaGreatDoorS3
