/-  Forms of functions.  -/
import Derived.Test.YtlhjfenpmnejoaaGreatDoorSta
