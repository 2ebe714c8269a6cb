/- Printed by lift.py: the types. -/
import Derived.Test.YtahccieomaopeaaLiftX
set_option maxRecDepth 100000
set_option maxHeartbeats 0
namespace Go.Pu
open Go.Lift

structure mewslaw07.Op where
  Kind : Int
  Key : List UInt8
  V : Int
  deriving Inhabited, DecidableEq
abbrev mewslaw07.Op.av (s : mewslaw07.Op) : AV := .agg [.int .i64 s.Kind, .str s.Key, .int .i64 s.V]
abbrev mewslaw07.Op.wf (s : mewslaw07.Op) : Prop := ((Lit.int .i64 s.Kind).wf = true) ∧ (s.Key.length ≤ 140737488351232) ∧ ((Lit.int .i64 s.V).wf = true) ∧ True

structure dict.places_int where
  size : Int
  l : RS
  deriving Inhabited, DecidableEq
abbrev dict.places_int.av (rg : Nat) (s : dict.places_int) : AV := .agg [.int .i64 s.size, .rs rg s.l]

end Go.Pu
