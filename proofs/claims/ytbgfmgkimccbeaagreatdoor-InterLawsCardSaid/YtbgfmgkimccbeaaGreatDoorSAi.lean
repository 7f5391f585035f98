/-  Forms of functions.  -/
import Derived.Test.YtbgfmgkimccbeaaGreatDoorSia
