/- All equations of T for functions of this program. -/
import Derived.Test.YtfbhdjkeofleiaaDoorEq0
