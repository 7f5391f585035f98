/-  Forms of functions.  -/
import Derived.Test.YtbleadagnpckbaaGreatDoorSlaw16a
