/- Printed by lift.py: the types. -/
import Derived.Test.YtjbphnophcpdeaaLiftX
import Derived.Test.YtjbphnophcpdeaaLiftZ
set_option maxRecDepth 100000
set_option maxHeartbeats 0
namespace Go.Pu
open Go.Lift

abbrev av_List_List_UInt8 (xs : List (List UInt8)) : AV := .sl .no 1 (xs.map AV.str)

structure dict.places_bool where
  size : Int
  l : RS
  deriving Inhabited, DecidableEq
abbrev dict.places_bool.av (rg : Nat) (s : dict.places_bool) : AV := .agg [.int .i64 s.size, .rs rg s.l]

structure mewslaw23.Op where
  Drop : Bool
  Members : List (List UInt8)
  deriving Inhabited, DecidableEq
abbrev mewslaw23.Op.av (s : mewslaw23.Op) : AV := .agg [.bool s.Drop, .sl .no 1 (s.Members.map AV.str)]
abbrev mewslaw23.Op.wf (s : mewslaw23.Op) : Prop := True ∧ (s.Members.length * 16 ≤ 140737488351232 ∧ ∀ y0, y0 ∈ s.Members → (y0.length ≤ 140737488351232)) ∧ True

end Go.Pu
