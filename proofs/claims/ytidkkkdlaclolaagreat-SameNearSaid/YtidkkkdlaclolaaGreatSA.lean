/-  Forms of functions.  -/
import Derived.Test.YtidkkkdlaclolaaGreatS0
import Derived.Test.YtidkkkdlaclolaaGreatS1
