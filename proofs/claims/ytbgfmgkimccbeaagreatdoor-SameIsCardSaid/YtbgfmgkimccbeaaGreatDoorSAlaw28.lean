/-  Forms of functions.  -/
import Derived.Test.YtbgfmgkimccbeaaGreatDoorSlaw28a
