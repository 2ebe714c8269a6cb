/- Lift, part A0: what is known of the world in which the run begins: strings.asciiSpace. -/
import Derived.Test.YtngliepchpkiiaaDoorLiftA
import Derived.Lib.Space
namespace Go.Lift

/-- Blocks, places in them, and what these hold. -/
def layL : List (Nat × Nat × Value) := (List.range 256).map fun c => (0, c, .int .u8 (if Go.Lib.isSp (UInt8.ofNat c) then 1 else 0))
end Go.Lift
