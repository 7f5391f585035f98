/-  Forms of functions.  -/
import Derived.Test.YthnegkjhciakpaaGreatDoorSr18a
