/-  Forms of functions.  -/
import Derived.Test.YtbgfmgkimccbeaaGreatDoorSua
