/-  Forms of functions.  -/
import Derived.Test.YtlhjfenpmnejoaaGreatDoorSlaw21a
