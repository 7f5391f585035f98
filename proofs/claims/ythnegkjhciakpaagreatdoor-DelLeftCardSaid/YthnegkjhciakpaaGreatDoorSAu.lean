/-  Forms of functions.  -/
import Derived.Test.YthnegkjhciakpaaGreatDoorSua
