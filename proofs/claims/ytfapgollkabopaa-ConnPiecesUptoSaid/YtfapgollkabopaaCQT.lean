/- Printed by lift.py: the types. -/
import Derived.Test.YtfapgollkabopaaLiftT
set_option maxRecDepth 100000
set_option maxHeartbeats 0
namespace Go.Pu
open Go.Lift

structure api.Limits where
  Args : Int
  Bulk : Int
  Line : Int
  deriving Inhabited, DecidableEq
abbrev api.Limits.av (s : api.Limits) : AV := .agg [.int .i64 s.Args, .int .i64 s.Bulk, .int .i64 s.Line]
abbrev api.Limits.wf (s : api.Limits) : Prop := ((Lit.int .i64 s.Args).wf = true) ∧ ((Lit.int .i64 s.Bulk).wf = true) ∧ ((Lit.int .i64 s.Line).wf = true) ∧ True

structure api.Input where
  Rest : List UInt8
  Args : List (List UInt8)
  Left : Int
  Size : Int
  Body : Bool
  Need : Int
  Dead : Int
  deriving Inhabited, DecidableEq
abbrev api.Input.av (s : api.Input) : AV := .agg [.str s.Rest, .sl .no 1 (s.Args.map AV.str), .int .i64 s.Left, .int .i64 s.Size, .bool s.Body, .int .i64 s.Need, .int .i64 s.Dead]
abbrev api.Input.wf (s : api.Input) : Prop := (s.Rest.length ≤ 140737488351232) ∧ (s.Args.length * 16 ≤ 140737488351232 ∧ ∀ y0, y0 ∈ s.Args → (y0.length ≤ 140737488351232)) ∧ ((Lit.int .i64 s.Left).wf = true) ∧ ((Lit.int .i64 s.Size).wf = true) ∧ True ∧ ((Lit.int .i64 s.Need).wf = true) ∧ ((Lit.int .i64 s.Dead).wf = true) ∧ True

abbrev api.Input.ct (k0 : Tok) (s : api.Input) : List AV := [.str s.Rest, .sl k0 1 (s.Args.map AV.str), .int .i64 s.Left, .int .i64 s.Size, .bool s.Body, .int .i64 s.Need, .int .i64 s.Dead]

structure api.Request where
  Args : List (List UInt8)
  Size : Int
  deriving Inhabited, DecidableEq
abbrev api.Request.av (s : api.Request) : AV := .agg [.sl .no 1 (s.Args.map AV.str), .int .i64 s.Size]
abbrev api.Request.wf (s : api.Request) : Prop := (s.Args.length * 16 ≤ 140737488351232 ∧ ∀ y0, y0 ∈ s.Args → (y0.length ≤ 140737488351232)) ∧ ((Lit.int .i64 s.Size).wf = true) ∧ True

structure parse.parser where
  in_ : api.Input
  s : List UInt8
  l : api.Limits
  out : List api.Request
  deriving Inhabited, DecidableEq
abbrev parse.parser.av (s : parse.parser) : AV := .agg [.str s.in_.Rest, .sl .no 1 (s.in_.Args.map AV.str), .int .i64 s.in_.Left, .int .i64 s.in_.Size, .bool s.in_.Body, .int .i64 s.in_.Need, .int .i64 s.in_.Dead, .str s.s, .int .i64 s.l.Args, .int .i64 s.l.Bulk, .int .i64 s.l.Line, .sl .no 2 (s.out.map api.Request.av)]
abbrev parse.parser.wf (s : parse.parser) : Prop := api.Input.wf s.in_ ∧ (s.s.length ≤ 140737488351232) ∧ api.Limits.wf s.l ∧ (s.out.length * 32 ≤ 140737488351232 ∧ ∀ y0, y0 ∈ s.out → api.Request.wf y0) ∧ True

abbrev parse.parser.ct (k0 k1 : Tok) (s : parse.parser) : List AV := [.str s.in_.Rest, .sl k0 1 (s.in_.Args.map AV.str), .int .i64 s.in_.Left, .int .i64 s.in_.Size, .bool s.in_.Body, .int .i64 s.in_.Need, .int .i64 s.in_.Dead, .str s.s, .int .i64 s.l.Args, .int .i64 s.l.Bulk, .int .i64 s.l.Line, .sl k1 2 (s.out.map api.Request.av)]

theorem api.Limits.eq_iff (x y : api.Limits) : decide (x = y) = (decide (x.Args = y.Args) && (decide (x.Bulk = y.Bulk) && (decide (x.Line = y.Line) && true))) := by
  cases x; cases y; simp

abbrev av_List_List_UInt8 (xs : List (List UInt8)) : AV := .sl .no 1 (xs.map AV.str)

structure mewslaw43.Op where
  Kind : Int
  S : List UInt8
  N : Int
  M : Int
  deriving Inhabited, DecidableEq
abbrev mewslaw43.Op.av (s : mewslaw43.Op) : AV := .agg [.int .i64 s.Kind, .str s.S, .int .i64 s.N, .int .i64 s.M]
abbrev mewslaw43.Op.wf (s : mewslaw43.Op) : Prop := ((Lit.int .i64 s.Kind).wf = true) ∧ (s.S.length ≤ 140737488351232) ∧ ((Lit.int .i64 s.N).wf = true) ∧ ((Lit.int .i64 s.M).wf = true) ∧ True

abbrev mewslaw43.Op.ct (s : mewslaw43.Op) : List AV := [.int .i64 s.Kind, .str s.S, .int .i64 s.N, .int .i64 s.M]

structure api.Tenant where
  Name : List UInt8
  Token : List UInt8
  Memory : Int
  Policy : Int
  Conns : Int
  In : Int
  Out : Int
  Burst : Int
  Rate : Int
  Disk : Int
  Sync : Int
  Limits : api.Limits
  deriving Inhabited, DecidableEq
abbrev api.Tenant.av (s : api.Tenant) : AV := .agg [.str s.Name, .str s.Token, .int .i64 s.Memory, .int .i64 s.Policy, .int .i64 s.Conns, .int .i64 s.In, .int .i64 s.Out, .int .i64 s.Burst, .int .i64 s.Rate, .int .i64 s.Disk, .int .i64 s.Sync, .int .i64 s.Limits.Args, .int .i64 s.Limits.Bulk, .int .i64 s.Limits.Line]
abbrev api.Tenant.wf (s : api.Tenant) : Prop := (s.Name.length ≤ 140737488351232) ∧ (s.Token.length ≤ 140737488351232) ∧ ((Lit.int .i64 s.Memory).wf = true) ∧ ((Lit.int .i64 s.Policy).wf = true) ∧ ((Lit.int .i64 s.Conns).wf = true) ∧ ((Lit.int .i64 s.In).wf = true) ∧ ((Lit.int .i64 s.Out).wf = true) ∧ ((Lit.int .i64 s.Burst).wf = true) ∧ ((Lit.int .i64 s.Rate).wf = true) ∧ ((Lit.int .i64 s.Disk).wf = true) ∧ ((Lit.int .i64 s.Sync).wf = true) ∧ api.Limits.wf s.Limits ∧ True

abbrev api.Tenant.ct (s : api.Tenant) : List AV := [.str s.Name, .str s.Token, .int .i64 s.Memory, .int .i64 s.Policy, .int .i64 s.Conns, .int .i64 s.In, .int .i64 s.Out, .int .i64 s.Burst, .int .i64 s.Rate, .int .i64 s.Disk, .int .i64 s.Sync, .int .i64 s.Limits.Args, .int .i64 s.Limits.Bulk, .int .i64 s.Limits.Line]

structure api.Held where
  Need : Int
  S : List UInt8
  deriving Inhabited, DecidableEq
abbrev api.Held.av (s : api.Held) : AV := .agg [.int .i64 s.Need, .str s.S]
abbrev api.Held.wf (s : api.Held) : Prop := ((Lit.int .i64 s.Need).wf = true) ∧ (s.S.length ≤ 140737488351232) ∧ True

structure api.Conn where
  Born : Int
  Tenant : Int
  In : api.Input
  Asked : Int
  Held : List api.Held
  Out : List UInt8
  Taken : Int
  Shut : Bool
  Closed : Bool
  deriving Inhabited, DecidableEq
abbrev api.Conn.av (s : api.Conn) : AV := .agg [.int .i64 s.Born, .int .i64 s.Tenant, .str s.In.Rest, .sl .no 1 (s.In.Args.map AV.str), .int .i64 s.In.Left, .int .i64 s.In.Size, .bool s.In.Body, .int .i64 s.In.Need, .int .i64 s.In.Dead, .int .i64 s.Asked, .sl .no 2 (s.Held.map api.Held.av), .str s.Out, .int .i64 s.Taken, .bool s.Shut, .bool s.Closed]
abbrev api.Conn.wf (s : api.Conn) : Prop := ((Lit.int .i64 s.Born).wf = true) ∧ ((Lit.int .i64 s.Tenant).wf = true) ∧ api.Input.wf s.In ∧ ((Lit.int .i64 s.Asked).wf = true) ∧ (s.Held.length * 24 ≤ 140737488351232 ∧ ∀ y0, y0 ∈ s.Held → api.Held.wf y0) ∧ (s.Out.length ≤ 140737488351232) ∧ ((Lit.int .i64 s.Taken).wf = true) ∧ True ∧ True ∧ True

abbrev api.Conn.ct (k0 k1 : Tok) (s : api.Conn) : List AV := [.int .i64 s.Born, .int .i64 s.Tenant, .str s.In.Rest, .sl k0 1 (s.In.Args.map AV.str), .int .i64 s.In.Left, .int .i64 s.In.Size, .bool s.In.Body, .int .i64 s.In.Need, .int .i64 s.In.Dead, .int .i64 s.Asked, .sl k1 2 (s.Held.map api.Held.av), .str s.Out, .int .i64 s.Taken, .bool s.Shut, .bool s.Closed]

theorem api.Held.eq_iff (x y : api.Held) : decide (x = y) = (decide (x.Need = y.Need) && (decide (x.S = y.S) && true)) := by
  cases x; cases y; simp

structure api.Config where
  Tenants : List api.Tenant
  Quantum : Int
  Deadline : Int
  deriving Inhabited, DecidableEq
abbrev api.Config.av (s : api.Config) : AV := .agg [.sl .no 14 (s.Tenants.map api.Tenant.av), .int .i64 s.Quantum, .int .i64 s.Deadline]
abbrev api.Config.wf (s : api.Config) : Prop := (s.Tenants.length * 128 ≤ 140737488351232 ∧ ∀ y0, y0 ∈ s.Tenants → api.Tenant.wf y0) ∧ ((Lit.int .i64 s.Quantum).wf = true) ∧ ((Lit.int .i64 s.Deadline).wf = true) ∧ True

end Go.Pu
