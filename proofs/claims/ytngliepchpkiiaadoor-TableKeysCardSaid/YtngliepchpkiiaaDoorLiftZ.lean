/- Lift, part Z: pieces of a vector of one's own: read, moved within it, cleared. -/
import Derived.Test.YtngliepchpkiiaaDoorLiftY
namespace Go.Lift
open Go.RowKit
variable {tp : Bool}

section
variable {P : Program} {n : Nat} {ops : Array Oper} {o : Oper} {l : List Oper} {c : Code} {fr : Fr} {st : St} {K : Fr → St → Prop} {k : AV → St → Prop} {Q : Post}

/-! ### The same over lists of data -/
variable {α : Type}

end
end Go.Lift
