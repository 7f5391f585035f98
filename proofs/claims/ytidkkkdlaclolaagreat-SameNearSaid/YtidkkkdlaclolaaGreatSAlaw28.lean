/-  Forms of functions.  -/
import Derived.Test.YtidkkkdlaclolaaGreatSlaw28a
