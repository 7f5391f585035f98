/-  Forms of functions.  -/
import Derived.Test.YthnegkjhciakpaaGreatDoorSlaw16a
