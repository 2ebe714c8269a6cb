/- Printed by lift.py: the types. -/
import Derived.Test.YtakmcdnailmhlaaGreatLiftT
import Derived.Test.YtakmcdnailmhlaaGreatLiftZ
import Derived.Test.YtakmcdnailmhlaaGreatLiftZM
set_option maxRecDepth 100000
set_option maxHeartbeats 0
namespace Go.Pu
open Go.Lift

structure api.Limits where
  Args : Int
  Bulk : Int
  Line : Int
  deriving Inhabited, DecidableEq
abbrev api.Limits.av (s : api.Limits) : AV := .agg [.int .i64 s.Args, .int .i64 s.Bulk, .int .i64 s.Line]
abbrev api.Limits.wf (s : api.Limits) : Prop := ((Lit.int .i64 s.Args).wf = true) ∧ ((Lit.int .i64 s.Bulk).wf = true) ∧ ((Lit.int .i64 s.Line).wf = true) ∧ True

structure api.Tenant where
  Name : List UInt8
  Token : List UInt8
  Memory : Int
  Policy : Int
  Conns : Int
  In : Int
  Out : Int
  Burst : Int
  Rate : Int
  Disk : Int
  Sync : Int
  Limits : api.Limits
  deriving Inhabited, DecidableEq
abbrev api.Tenant.av (s : api.Tenant) : AV := .agg [.str s.Name, .str s.Token, .int .i64 s.Memory, .int .i64 s.Policy, .int .i64 s.Conns, .int .i64 s.In, .int .i64 s.Out, .int .i64 s.Burst, .int .i64 s.Rate, .int .i64 s.Disk, .int .i64 s.Sync, .int .i64 s.Limits.Args, .int .i64 s.Limits.Bulk, .int .i64 s.Limits.Line]
abbrev api.Tenant.wf (s : api.Tenant) : Prop := (s.Name.length ≤ 140737488351232) ∧ (s.Token.length ≤ 140737488351232) ∧ ((Lit.int .i64 s.Memory).wf = true) ∧ ((Lit.int .i64 s.Policy).wf = true) ∧ ((Lit.int .i64 s.Conns).wf = true) ∧ ((Lit.int .i64 s.In).wf = true) ∧ ((Lit.int .i64 s.Out).wf = true) ∧ ((Lit.int .i64 s.Burst).wf = true) ∧ ((Lit.int .i64 s.Rate).wf = true) ∧ ((Lit.int .i64 s.Disk).wf = true) ∧ ((Lit.int .i64 s.Sync).wf = true) ∧ api.Limits.wf s.Limits ∧ True

structure api.Config where
  Tenants : List api.Tenant
  Quantum : Int
  Deadline : Int
  deriving Inhabited, DecidableEq
abbrev api.Config.av (s : api.Config) : AV := .agg [.sl .no 14 (s.Tenants.map api.Tenant.av), .int .i64 s.Quantum, .int .i64 s.Deadline]
abbrev api.Config.wf (s : api.Config) : Prop := (s.Tenants.length * 128 ≤ 140737488351232 ∧ ∀ y0, y0 ∈ s.Tenants → api.Tenant.wf y0) ∧ ((Lit.int .i64 s.Quantum).wf = true) ∧ ((Lit.int .i64 s.Deadline).wf = true) ∧ True

structure api.Fault where
  Name : List UInt8
  Kind : Int
  Short : Int
  deriving Inhabited, DecidableEq
abbrev api.Fault.av (s : api.Fault) : AV := .agg [.str s.Name, .int .i64 s.Kind, .int .i64 s.Short]
abbrev api.Fault.wf (s : api.Fault) : Prop := (s.Name.length ≤ 140737488351232) ∧ ((Lit.int .i64 s.Kind).wf = true) ∧ ((Lit.int .i64 s.Short).wf = true) ∧ True

structure api.Keep where
  Name : List UInt8
  Bytes : Int
  deriving Inhabited, DecidableEq
abbrev api.Keep.av (s : api.Keep) : AV := .agg [.str s.Name, .int .i64 s.Bytes]
abbrev api.Keep.wf (s : api.Keep) : Prop := (s.Name.length ≤ 140737488351232) ∧ ((Lit.int .i64 s.Bytes).wf = true) ∧ True

structure api.Left where
  Tenant : Int
  Keep : api.Keep
  deriving Inhabited, DecidableEq
abbrev api.Left.av (s : api.Left) : AV := .agg [.int .i64 s.Tenant, .str s.Keep.Name, .int .i64 s.Keep.Bytes]
abbrev api.Left.wf (s : api.Left) : Prop := ((Lit.int .i64 s.Tenant).wf = true) ∧ api.Keep.wf s.Keep ∧ True

structure api.Event where
  Kind : Int
  Handle : Int
  S : List UInt8
  N : Int
  Tenant : Int
  Fault : api.Fault
  Lefts : List api.Left
  deriving Inhabited, DecidableEq
abbrev api.Event.av (s : api.Event) : AV := .agg [.int .i64 s.Kind, .int .i64 s.Handle, .str s.S, .int .i64 s.N, .int .i64 s.Tenant, .str s.Fault.Name, .int .i64 s.Fault.Kind, .int .i64 s.Fault.Short, .sl .no 3 (s.Lefts.map api.Left.av)]
abbrev api.Event.wf (s : api.Event) : Prop := ((Lit.int .i64 s.Kind).wf = true) ∧ ((Lit.int .i64 s.Handle).wf = true) ∧ (s.S.length ≤ 140737488351232) ∧ ((Lit.int .i64 s.N).wf = true) ∧ ((Lit.int .i64 s.Tenant).wf = true) ∧ api.Fault.wf s.Fault ∧ (s.Lefts.length * 32 ≤ 140737488351232 ∧ ∀ y0, y0 ∈ s.Lefts → api.Left.wf y0) ∧ True

abbrev api.Event.ct (k0 : Tok) (s : api.Event) : List AV := [.int .i64 s.Kind, .int .i64 s.Handle, .str s.S, .int .i64 s.N, .int .i64 s.Tenant, .str s.Fault.Name, .int .i64 s.Fault.Kind, .int .i64 s.Fault.Short, .sl k0 3 (s.Lefts.map api.Left.av)]

abbrev api.Tenant.ct (s : api.Tenant) : List AV := [.str s.Name, .str s.Token, .int .i64 s.Memory, .int .i64 s.Policy, .int .i64 s.Conns, .int .i64 s.In, .int .i64 s.Out, .int .i64 s.Burst, .int .i64 s.Rate, .int .i64 s.Disk, .int .i64 s.Sync, .int .i64 s.Limits.Args, .int .i64 s.Limits.Bulk, .int .i64 s.Limits.Line]

structure api.Input where
  Rest : List UInt8
  Args : List (List UInt8)
  Left : Int
  Size : Int
  Body : Bool
  Need : Int
  Dead : Int
  deriving Inhabited, DecidableEq
abbrev api.Input.av (s : api.Input) : AV := .agg [.str s.Rest, .sl .no 1 (s.Args.map AV.str), .int .i64 s.Left, .int .i64 s.Size, .bool s.Body, .int .i64 s.Need, .int .i64 s.Dead]
abbrev api.Input.wf (s : api.Input) : Prop := (s.Rest.length ≤ 140737488351232) ∧ (s.Args.length * 16 ≤ 140737488351232 ∧ ∀ y0, y0 ∈ s.Args → (y0.length ≤ 140737488351232)) ∧ ((Lit.int .i64 s.Left).wf = true) ∧ ((Lit.int .i64 s.Size).wf = true) ∧ True ∧ ((Lit.int .i64 s.Need).wf = true) ∧ ((Lit.int .i64 s.Dead).wf = true) ∧ True

abbrev api.Input.ct (k0 : Tok) (s : api.Input) : List AV := [.str s.Rest, .sl k0 1 (s.Args.map AV.str), .int .i64 s.Left, .int .i64 s.Size, .bool s.Body, .int .i64 s.Need, .int .i64 s.Dead]

structure api.Request where
  Args : List (List UInt8)
  Size : Int
  deriving Inhabited, DecidableEq
abbrev api.Request.av (s : api.Request) : AV := .agg [.sl .no 1 (s.Args.map AV.str), .int .i64 s.Size]
abbrev api.Request.wf (s : api.Request) : Prop := (s.Args.length * 16 ≤ 140737488351232 ∧ ∀ y0, y0 ∈ s.Args → (y0.length ≤ 140737488351232)) ∧ ((Lit.int .i64 s.Size).wf = true) ∧ True

structure parse.parser where
  in_ : api.Input
  s : List UInt8
  l : api.Limits
  out : List api.Request
  deriving Inhabited, DecidableEq
abbrev parse.parser.av (s : parse.parser) : AV := .agg [.str s.in_.Rest, .sl .no 1 (s.in_.Args.map AV.str), .int .i64 s.in_.Left, .int .i64 s.in_.Size, .bool s.in_.Body, .int .i64 s.in_.Need, .int .i64 s.in_.Dead, .str s.s, .int .i64 s.l.Args, .int .i64 s.l.Bulk, .int .i64 s.l.Line, .sl .no 2 (s.out.map api.Request.av)]
abbrev parse.parser.wf (s : parse.parser) : Prop := api.Input.wf s.in_ ∧ (s.s.length ≤ 140737488351232) ∧ api.Limits.wf s.l ∧ (s.out.length * 32 ≤ 140737488351232 ∧ ∀ y0, y0 ∈ s.out → api.Request.wf y0) ∧ True

abbrev parse.parser.ct (k0 k1 : Tok) (s : parse.parser) : List AV := [.str s.in_.Rest, .sl k0 1 (s.in_.Args.map AV.str), .int .i64 s.in_.Left, .int .i64 s.in_.Size, .bool s.in_.Body, .int .i64 s.in_.Need, .int .i64 s.in_.Dead, .str s.s, .int .i64 s.l.Args, .int .i64 s.l.Bulk, .int .i64 s.l.Line, .sl k1 2 (s.out.map api.Request.av)]

structure api.Label where
  Handle : Int
  Tenant : Int
  deriving Inhabited, DecidableEq
abbrev api.Label.av (s : api.Label) : AV := .agg [.int .i64 s.Handle, .int .i64 s.Tenant]
abbrev api.Label.wf (s : api.Label) : Prop := ((Lit.int .i64 s.Handle).wf = true) ∧ ((Lit.int .i64 s.Tenant).wf = true) ∧ True

theorem api.Fault.eq_iff (x y : api.Fault) : decide (x = y) = (decide (x.Name = y.Name) && (decide (x.Kind = y.Kind) && (decide (x.Short = y.Short) && true))) := by
  cases x; cases y; simp

theorem api.Left.eq_iff (x y : api.Left) : decide (x = y) = (decide (x.Tenant = y.Tenant) && (decide (x.Keep = y.Keep) && true)) := by
  cases x; cases y; simp

theorem api.Keep.eq_iff (x y : api.Keep) : decide (x = y) = (decide (x.Name = y.Name) && (decide (x.Bytes = y.Bytes) && true)) := by
  cases x; cases y; simp

theorem api.Label.eq_iff (x y : api.Label) : decide (x = y) = (decide (x.Handle = y.Handle) && (decide (x.Tenant = y.Tenant) && true)) := by
  cases x; cases y; simp

end Go.Pu
