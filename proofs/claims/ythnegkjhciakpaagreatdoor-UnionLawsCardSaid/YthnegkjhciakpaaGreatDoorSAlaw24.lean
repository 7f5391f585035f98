/-  Forms of functions.  -/
import Derived.Test.YthnegkjhciakpaaGreatDoorSlaw24a
