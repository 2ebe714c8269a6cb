/- Printed by lift.py: the types. -/
import Derived.Test.YtbegfakopnaagaaLiftR
set_option maxRecDepth 100000
set_option maxHeartbeats 0
namespace Go.Pu
open Go.Lift



end Go.Pu
