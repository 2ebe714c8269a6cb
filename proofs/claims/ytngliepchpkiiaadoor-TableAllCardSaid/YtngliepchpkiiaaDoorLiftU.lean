/- Lift, part U: short names for what the printed proofs say most often. -/
import Derived.Test.YtngliepchpkiiaaDoorLiftT
namespace Go.Lift
theorem Z {α : Sort _} {a : α} : a = a := rfl
theorem tm {fr : Fr} {t : Tmp} {v : AV} (h : fr.lookup t = some v) : AEv fr (.tmp t) v := AEv.tmp h
end Go.Lift
