/-  Forms of functions.  -/
import Derived.Test.YtlhjfenpmnejoaaGreatSta
