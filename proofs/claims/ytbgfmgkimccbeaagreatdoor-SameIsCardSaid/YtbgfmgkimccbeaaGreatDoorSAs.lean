/-  Forms of functions.  -/
import Derived.Test.YtbgfmgkimccbeaaGreatDoorSsa
