/-  Forms of functions.  -/
import Derived.Test.YthnegkjhciakpaaGreatDoorSta
