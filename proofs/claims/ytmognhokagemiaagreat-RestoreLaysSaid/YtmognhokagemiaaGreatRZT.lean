/- Printed by lift.py: the types. -/
import Derived.Test.YtmognhokagemiaaGreatLiftT
import Derived.Test.YtmognhokagemiaaGreatLiftZ
set_option maxRecDepth 100000
set_option maxHeartbeats 0
namespace Go.Pu
open Go.Lift

structure api.File where
  Name : List UInt8
  Data : List UInt8
  Synced : Int
  deriving Inhabited, DecidableEq
abbrev api.File.av (s : api.File) : AV := .agg [.str s.Name, .str s.Data, .int .i64 s.Synced]
abbrev api.File.wf (s : api.File) : Prop := (s.Name.length ≤ 140737488351232) ∧ (s.Data.length ≤ 140737488351232) ∧ ((Lit.int .i64 s.Synced).wf = true) ∧ True

structure api.Fault where
  Name : List UInt8
  Kind : Int
  Short : Int
  deriving Inhabited, DecidableEq
abbrev api.Fault.av (s : api.Fault) : AV := .agg [.str s.Name, .int .i64 s.Kind, .int .i64 s.Short]
abbrev api.Fault.wf (s : api.Fault) : Prop := (s.Name.length ≤ 140737488351232) ∧ ((Lit.int .i64 s.Kind).wf = true) ∧ ((Lit.int .i64 s.Short).wf = true) ∧ True

structure api.Disk where
  Files : List api.File
  Faults : List api.Fault
  deriving Inhabited, DecidableEq
abbrev api.Disk.av (s : api.Disk) : AV := .agg [.sl .no 3 (s.Files.map api.File.av), .sl .no 3 (s.Faults.map api.Fault.av)]
abbrev api.Disk.wf (s : api.Disk) : Prop := (s.Files.length * 40 ≤ 140737488351232 ∧ ∀ y0, y0 ∈ s.Files → api.File.wf y0) ∧ (s.Faults.length * 32 ≤ 140737488351232 ∧ ∀ y0, y0 ∈ s.Faults → api.Fault.wf y0) ∧ True

structure mewslaw16.Op where
  Kind : Int
  Name : List UInt8
  S : List UInt8
  N : Int
  deriving Inhabited, DecidableEq
abbrev mewslaw16.Op.av (s : mewslaw16.Op) : AV := .agg [.int .i64 s.Kind, .str s.Name, .str s.S, .int .i64 s.N]
abbrev mewslaw16.Op.wf (s : mewslaw16.Op) : Prop := ((Lit.int .i64 s.Kind).wf = true) ∧ (s.Name.length ≤ 140737488351232) ∧ (s.S.length ≤ 140737488351232) ∧ ((Lit.int .i64 s.N).wf = true) ∧ True

abbrev mewslaw16.Op.ct (s : mewslaw16.Op) : List AV := [.int .i64 s.Kind, .str s.Name, .str s.S, .int .i64 s.N]

abbrev av_List_List_UInt8 (xs : List (List UInt8)) : AV := .sl .no 1 (xs.map AV.str)

structure api.Unit where
  Cmds : List (List (List UInt8))
  deriving Inhabited, DecidableEq
abbrev api.Unit.av (s : api.Unit) : AV := .agg [.sl .no 1 (s.Cmds.map av_List_List_UInt8)]
abbrev api.Unit.wf (s : api.Unit) : Prop := (s.Cmds.length * 24 ≤ 140737488351232 ∧ ∀ y0, y0 ∈ s.Cmds → (y0.length * 16 ≤ 140737488351232 ∧ ∀ y1, y1 ∈ y0 → (y1.length ≤ 140737488351232))) ∧ True

structure api.Input where
  Rest : List UInt8
  Args : List (List UInt8)
  Left : Int
  Size : Int
  Body : Bool
  Need : Int
  Dead : Int
  deriving Inhabited, DecidableEq
abbrev api.Input.av (s : api.Input) : AV := .agg [.str s.Rest, .sl .no 1 (s.Args.map AV.str), .int .i64 s.Left, .int .i64 s.Size, .bool s.Body, .int .i64 s.Need, .int .i64 s.Dead]
abbrev api.Input.wf (s : api.Input) : Prop := (s.Rest.length ≤ 140737488351232) ∧ (s.Args.length * 16 ≤ 140737488351232 ∧ ∀ y0, y0 ∈ s.Args → (y0.length ≤ 140737488351232)) ∧ ((Lit.int .i64 s.Left).wf = true) ∧ ((Lit.int .i64 s.Size).wf = true) ∧ True ∧ ((Lit.int .i64 s.Need).wf = true) ∧ ((Lit.int .i64 s.Dead).wf = true) ∧ True

abbrev api.Input.ct (k0 : Tok) (s : api.Input) : List AV := [.str s.Rest, .sl k0 1 (s.Args.map AV.str), .int .i64 s.Left, .int .i64 s.Size, .bool s.Body, .int .i64 s.Need, .int .i64 s.Dead]

structure api.Limits where
  Args : Int
  Bulk : Int
  Line : Int
  deriving Inhabited, DecidableEq
abbrev api.Limits.av (s : api.Limits) : AV := .agg [.int .i64 s.Args, .int .i64 s.Bulk, .int .i64 s.Line]
abbrev api.Limits.wf (s : api.Limits) : Prop := ((Lit.int .i64 s.Args).wf = true) ∧ ((Lit.int .i64 s.Bulk).wf = true) ∧ ((Lit.int .i64 s.Line).wf = true) ∧ True

structure api.Request where
  Args : List (List UInt8)
  Size : Int
  deriving Inhabited, DecidableEq
abbrev api.Request.av (s : api.Request) : AV := .agg [.sl .no 1 (s.Args.map AV.str), .int .i64 s.Size]
abbrev api.Request.wf (s : api.Request) : Prop := (s.Args.length * 16 ≤ 140737488351232 ∧ ∀ y0, y0 ∈ s.Args → (y0.length ≤ 140737488351232)) ∧ ((Lit.int .i64 s.Size).wf = true) ∧ True

structure parse.parser where
  in_ : api.Input
  s : List UInt8
  l : api.Limits
  out : List api.Request
  deriving Inhabited, DecidableEq
abbrev parse.parser.av (s : parse.parser) : AV := .agg [.str s.in_.Rest, .sl .no 1 (s.in_.Args.map AV.str), .int .i64 s.in_.Left, .int .i64 s.in_.Size, .bool s.in_.Body, .int .i64 s.in_.Need, .int .i64 s.in_.Dead, .str s.s, .int .i64 s.l.Args, .int .i64 s.l.Bulk, .int .i64 s.l.Line, .sl .no 2 (s.out.map api.Request.av)]
abbrev parse.parser.wf (s : parse.parser) : Prop := api.Input.wf s.in_ ∧ (s.s.length ≤ 140737488351232) ∧ api.Limits.wf s.l ∧ (s.out.length * 32 ≤ 140737488351232 ∧ ∀ y0, y0 ∈ s.out → api.Request.wf y0) ∧ True

abbrev parse.parser.ct (k0 k1 : Tok) (s : parse.parser) : List AV := [.str s.in_.Rest, .sl k0 1 (s.in_.Args.map AV.str), .int .i64 s.in_.Left, .int .i64 s.in_.Size, .bool s.in_.Body, .int .i64 s.in_.Need, .int .i64 s.in_.Dead, .str s.s, .int .i64 s.l.Args, .int .i64 s.l.Bulk, .int .i64 s.l.Line, .sl k1 2 (s.out.map api.Request.av)]

theorem api.File.eq_iff (x y : api.File) : decide (x = y) = (decide (x.Name = y.Name) && (decide (x.Data = y.Data) && (decide (x.Synced = y.Synced) && true))) := by
  cases x; cases y; simp

theorem api.Fault.eq_iff (x y : api.Fault) : decide (x = y) = (decide (x.Name = y.Name) && (decide (x.Kind = y.Kind) && (decide (x.Short = y.Short) && true))) := by
  cases x; cases y; simp

structure api.Log where
  Name : List UInt8
  Policy : Int
  Quota : Int
  Size : Int
  Pending : List UInt8
  Logged : Int
  Durable : Int
  Ends : List Int
  Last : Int
  deriving Inhabited, DecidableEq
abbrev api.Log.av (s : api.Log) : AV := .agg [.str s.Name, .int .i64 s.Policy, .int .i64 s.Quota, .int .i64 s.Size, .str s.Pending, .int .i64 s.Logged, .int .i64 s.Durable, .sl .no 1 (s.Ends.map (AV.int .i64)), .int .i64 s.Last]
abbrev api.Log.wf (s : api.Log) : Prop := (s.Name.length ≤ 140737488351232) ∧ ((Lit.int .i64 s.Policy).wf = true) ∧ ((Lit.int .i64 s.Quota).wf = true) ∧ ((Lit.int .i64 s.Size).wf = true) ∧ (s.Pending.length ≤ 140737488351232) ∧ ((Lit.int .i64 s.Logged).wf = true) ∧ ((Lit.int .i64 s.Durable).wf = true) ∧ (s.Ends.length * 8 ≤ 140737488351232 ∧ ∀ y0, y0 ∈ s.Ends → ((Lit.int .i64 y0).wf = true)) ∧ ((Lit.int .i64 s.Last).wf = true) ∧ True

abbrev api.Log.ct (k0 : Tok) (s : api.Log) : List AV := [.str s.Name, .int .i64 s.Policy, .int .i64 s.Quota, .int .i64 s.Size, .str s.Pending, .int .i64 s.Logged, .int .i64 s.Durable, .sl k0 1 (s.Ends.map (AV.int .i64)), .int .i64 s.Last]

end Go.Pu
