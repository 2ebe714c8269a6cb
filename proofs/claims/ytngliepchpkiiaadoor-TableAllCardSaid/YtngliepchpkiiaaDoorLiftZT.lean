/- Lift, part ZT: slices.Compact of texts over a vector of one's own, by the shelf's contract. -/
import Derived.Test.YtngliepchpkiiaaDoorLiftZS
import Derived.Lib.SlicesCompact
namespace Go.Lift
open Go.RowKit

section
variable {P : Program} {n : Nat} {o : Oper} {fr : Fr} {st : St} {k : AV → St → Prop}

end
end Go.Lift
