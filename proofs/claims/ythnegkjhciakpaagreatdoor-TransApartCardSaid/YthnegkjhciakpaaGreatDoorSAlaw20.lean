/-  Forms of functions.  -/
import Derived.Test.YthnegkjhciakpaaGreatDoorSlaw20a
