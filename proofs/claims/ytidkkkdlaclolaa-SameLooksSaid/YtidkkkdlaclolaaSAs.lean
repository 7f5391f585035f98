/-  Forms of functions.  -/
import Derived.Test.YtidkkkdlaclolaaSsa
