/-  Forms of functions.  -/
import Derived.Test.YtidkkkdlaclolaaGreatSsa
