/-  Forms of functions.  -/
import Derived.Test.YtidkkkdlaclolaaS0
import Derived.Test.YtidkkkdlaclolaaS1
