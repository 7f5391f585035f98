/-  Forms of functions.  -/
import Derived.Test.YthnegkjhciakpaaGreatDoorSlaw19a
