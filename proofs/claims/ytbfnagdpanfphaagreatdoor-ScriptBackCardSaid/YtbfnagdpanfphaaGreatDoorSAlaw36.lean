/-  Forms of functions.  -/
import Derived.Test.YtbfnagdpanfphaaGreatDoorSlaw36a
