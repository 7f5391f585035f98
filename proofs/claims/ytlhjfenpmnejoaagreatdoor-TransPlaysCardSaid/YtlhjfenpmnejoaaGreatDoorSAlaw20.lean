/-  Forms of functions.  -/
import Derived.Test.YtlhjfenpmnejoaaGreatDoorSlaw20a
