/-  Forms of functions.  -/
import Derived.Test.YtidkkkdlaclolaaSlaw28a
