/- Printed by lift.py: the types. -/
import Derived.Test.YtlidepjlhmaldaaLiftT
import Derived.Test.YtlidepjlhmaldaaLiftZ
import Derived.Lib.SlicesCompact
set_option maxRecDepth 100000
set_option maxHeartbeats 0
namespace Go.Pu
open Go.Lift

structure api.File where
  Name : List UInt8
  Data : List UInt8
  Synced : Int
  deriving Inhabited, DecidableEq
abbrev api.File.av (s : api.File) : AV := .agg [.str s.Name, .str s.Data, .int .i64 s.Synced]
abbrev api.File.wf (s : api.File) : Prop := (s.Name.length ≤ 140737488351232) ∧ (s.Data.length ≤ 140737488351232) ∧ ((Lit.int .i64 s.Synced).wf = true) ∧ True

structure api.Fault where
  Name : List UInt8
  Kind : Int
  Short : Int
  deriving Inhabited, DecidableEq
abbrev api.Fault.av (s : api.Fault) : AV := .agg [.str s.Name, .int .i64 s.Kind, .int .i64 s.Short]
abbrev api.Fault.wf (s : api.Fault) : Prop := (s.Name.length ≤ 140737488351232) ∧ ((Lit.int .i64 s.Kind).wf = true) ∧ ((Lit.int .i64 s.Short).wf = true) ∧ True

structure api.Disk where
  Files : List api.File
  Faults : List api.Fault
  deriving Inhabited, DecidableEq
abbrev api.Disk.av (s : api.Disk) : AV := .agg [.sl .no 3 (s.Files.map api.File.av), .sl .no 3 (s.Faults.map api.Fault.av)]
abbrev api.Disk.wf (s : api.Disk) : Prop := (s.Files.length * 40 ≤ 140737488351232 ∧ ∀ y0, y0 ∈ s.Files → api.File.wf y0) ∧ (s.Faults.length * 32 ≤ 140737488351232 ∧ ∀ y0, y0 ∈ s.Faults → api.Fault.wf y0) ∧ True

structure mewslaw16.Op where
  Kind : Int
  Name : List UInt8
  S : List UInt8
  N : Int
  deriving Inhabited, DecidableEq
abbrev mewslaw16.Op.av (s : mewslaw16.Op) : AV := .agg [.int .i64 s.Kind, .str s.Name, .str s.S, .int .i64 s.N]
abbrev mewslaw16.Op.wf (s : mewslaw16.Op) : Prop := ((Lit.int .i64 s.Kind).wf = true) ∧ (s.Name.length ≤ 140737488351232) ∧ (s.S.length ≤ 140737488351232) ∧ ((Lit.int .i64 s.N).wf = true) ∧ True

abbrev mewslaw16.Op.ct (s : mewslaw16.Op) : List AV := [.int .i64 s.Kind, .str s.Name, .str s.S, .int .i64 s.N]

structure api.Keep where
  Name : List UInt8
  Bytes : Int
  deriving Inhabited, DecidableEq
abbrev api.Keep.av (s : api.Keep) : AV := .agg [.str s.Name, .int .i64 s.Bytes]
abbrev api.Keep.wf (s : api.Keep) : Prop := (s.Name.length ≤ 140737488351232) ∧ ((Lit.int .i64 s.Bytes).wf = true) ∧ True

theorem api.File.eq_iff (x y : api.File) : decide (x = y) = (decide (x.Name = y.Name) && (decide (x.Data = y.Data) && (decide (x.Synced = y.Synced) && true))) := by
  cases x; cases y; simp

theorem api.Fault.eq_iff (x y : api.Fault) : decide (x = y) = (decide (x.Name = y.Name) && (decide (x.Kind = y.Kind) && (decide (x.Short = y.Short) && true))) := by
  cases x; cases y; simp

end Go.Pu
