/- Printed by lift.py: the types. -/
import Derived.Test.YtbegfakopnaagaaLiftT
set_option maxRecDepth 100000
set_option maxHeartbeats 0
namespace Go.Pu
open Go.Lift

abbrev av_List_List_UInt8 (xs : List (List UInt8)) : AV := .sl .no 1 (xs.map AV.str)

end Go.Pu
