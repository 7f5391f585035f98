/-  Forms of functions.  -/
import Derived.Test.YtbgfmgkimccbeaaGreatDoorS0
import Derived.Test.YtbgfmgkimccbeaaGreatDoorS1
import Derived.Test.YtbgfmgkimccbeaaGreatDoorS2
import Derived.Test.YtbgfmgkimccbeaaGreatDoorS3
