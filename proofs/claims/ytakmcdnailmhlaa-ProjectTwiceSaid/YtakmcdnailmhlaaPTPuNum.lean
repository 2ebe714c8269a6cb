import Derived.Test.YtakmcdnailmhlaaPTPuBase
import Derived.Test.YtakmcdnailmhlaaPTC
set_option maxRecDepth 100000
namespace Go.Pu
open Go.Lift

def isDig (c : UInt8) : Prop := 48 ≤ c.toNat ∧ c.toNat ≤ 57
instance (c : UInt8) : Decidable (isDig c) := inferInstanceAs (Decidable (_ ∧ _))
end Go.Pu
