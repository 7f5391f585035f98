/-  Forms of functions.  -/
import Derived.Test.YtbgfmgkimccbeaaGreatDoorSlaw25a
