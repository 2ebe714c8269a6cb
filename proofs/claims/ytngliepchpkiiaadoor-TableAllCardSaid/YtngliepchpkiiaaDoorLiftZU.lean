/- Lift, part ZU: slices.SortFunc at structs over a vector of one's own, by the shelf's contract. -/
import Derived.Test.YtngliepchpkiiaaDoorLiftZS
import Derived.Shelf.GgSortFunc.InsertionK
import Derived.Lib.Bytealg
import Derived.Shelf.SlSortCmp.Insertion
namespace Go.Lift
open Go.RowKit Go.Sort

end Go.Lift
