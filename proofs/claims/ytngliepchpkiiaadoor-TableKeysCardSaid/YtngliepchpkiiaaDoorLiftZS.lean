/- Lift, part ZS: slices.Sort over a vector of one's own, by the shelf's contract. -/
import Derived.Test.YtngliepchpkiiaaDoorLiftZ
import Derived.Test.YtngliepchpkiiaaDoorLiftV
import Derived.Sort.EncStr
import Derived.Sort.Row
import Derived.Sort.Grow
namespace Go.Lift
open Go.RowKit

end Go.Lift
