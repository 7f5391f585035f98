/-  Forms of functions.  -/
import Derived.Test.YtlhjfenpmnejoaaGreatSlaw21a
