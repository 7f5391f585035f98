/-  Forms of functions.  -/
import Derived.Test.YtbfnagdpanfphaaGreatDoorSea
