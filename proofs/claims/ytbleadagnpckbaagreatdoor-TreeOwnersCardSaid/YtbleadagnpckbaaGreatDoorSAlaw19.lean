/-  Forms of functions.  -/
import Derived.Test.YtbleadagnpckbaaGreatDoorSlaw19a
