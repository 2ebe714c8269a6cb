/- ScanNobody. -/
import Derived.Test.YtahccieomaopeaaDKPuDictB
set_option maxHeartbeats 0
set_option maxRecDepth 100000
namespace Go.Pu
open Go.Lift

theorem alive08 : mewslaw08.alive = some true := mewslaw08.alive.c_le 200 true (by decide +kernel)

theorem ScanNobody_pure (cursor count : Int) (hc : -9223372036854775808 ≤ count) : mewslaw08.ScanNobody cursor count = some true := by
 have e1 : scan.Turn_int none cursor ([] : Reg) = some (0, [], []) := rfl
 have e2 : scan.Scan_int none cursor count ([] : Reg) = some (0, [], []) := by
  unfold scan.Scan_int scan.Scan_int.loop0
  have hb : scan.Scan_int.body0 count none ⟨cursor, [], 0, []⟩ = some (.inr (0, [], [])) := by
   unfold scan.Scan_int.body0
   have hpos : (0 : Int) < IntKind.wrap .i64 (10 * (if 100000 < (if count < 1 then 1 else count) then 100000 else (if count < 1 then 1 else count))) := by
    rw [i64_wrap (by split <;> split <;> omega) (by split <;> split <;> omega)]
    split <;> split <;> omega
   show (if (0 : Int) < _ then _ else _) = _
   rw [if_pos hpos]
   show ((scan.Turn_int none cursor ([] : Reg)).bind _) = _
   rw [e1, Option.bind_some, need_eq (by show (([] : List (List UInt8)).length + ([] : List (List UInt8)).length) * 16 ≤ 140737488355328; decide), letO_def]
   rfl
  rw [whileO_ret hb]
  rfl
 have e3 : scan.Pick_int none cursor ([] : Reg) = some ([], false, []) := rfl
 unfold mewslaw08.ScanNobody
 rw [e1, Option.bind_some]
 show ((scan.Scan_int none cursor count ([] : Reg)).bind _) = _
 rw [e2, Option.bind_some]
 show ((scan.Pick_int none cursor ([] : Reg)).bind _) = _
 rw [e3, Option.bind_some, if_pos rfl, if_pos rfl, if_pos (show IntKind.wrap .i64 ((([] : List (List UInt8)).length : Int) + (([] : List (List UInt8)).length : Int)) = 0 from by decide), if_pos rfl, if_pos (show (!false) = true from rfl), alive08]
 rfl

end Go.Pu

namespace Go.Pu.Pure
open Go.Lift Go.Pu
theorem ScanNobody {a0 a1 : Int} (h0 : (Lit.int .u64 a0).wf = true) (h1 : (Lit.int .i64 a1).wf = true) : mewslaw08.ScanNobody a0 a1 = some true := ScanNobody_pure a0 a1 (wf_i64 h1).1
end Go.Pu.Pure
