/- Printed by lift.py: the types. -/
import Derived.Test.YtnlnolbgakfofaaLiftT
import Derived.Test.YtnlnolbgakfofaaLiftZ
import Derived.Lib.SlicesCompact
import Derived.Test.YtnlnolbgakfofaaLiftZU
set_option maxRecDepth 100000
set_option maxHeartbeats 0
namespace Go.Pu
open Go.Lift

structure api.Field where
  Key : List UInt8
  Val : List UInt8
  deriving Inhabited, DecidableEq
abbrev api.Field.av (s : api.Field) : AV := .agg [.str s.Key, .str s.Val]
abbrev api.Field.wf (s : api.Field) : Prop := (s.Key.length ≤ 140737488351232) ∧ (s.Val.length ≤ 140737488351232) ∧ True

structure api.Scored where
  Member : List UInt8
  Score : Int
  deriving Inhabited, DecidableEq
abbrev api.Scored.av (s : api.Scored) : AV := .agg [.str s.Member, .int .i64 s.Score]
abbrev api.Scored.wf (s : api.Scored) : Prop := (s.Member.length ≤ 140737488351232) ∧ ((Lit.int .i64 s.Score).wf = true) ∧ True

structure api.Value where
  Kind : Int
  Text : List UInt8
  List_ : List (List UInt8)
  Hash : List api.Field
  ZSet : List api.Scored
  deriving Inhabited, DecidableEq
abbrev api.Value.av (s : api.Value) : AV := .agg [.int .i64 s.Kind, .str s.Text, .sl .no 1 (s.List_.map AV.str), .sl .no 2 (s.Hash.map api.Field.av), .sl .no 2 (s.ZSet.map api.Scored.av)]
abbrev api.Value.wf (s : api.Value) : Prop := ((Lit.int .i64 s.Kind).wf = true) ∧ (s.Text.length ≤ 140737488351232) ∧ (s.List_.length * 16 ≤ 140737488351232 ∧ ∀ y0, y0 ∈ s.List_ → (y0.length ≤ 140737488351232)) ∧ (s.Hash.length * 32 ≤ 140737488351232 ∧ ∀ y0, y0 ∈ s.Hash → api.Field.wf y0) ∧ (s.ZSet.length * 24 ≤ 140737488351232 ∧ ∀ y0, y0 ∈ s.ZSet → api.Scored.wf y0) ∧ True

abbrev api.Value.ct (k0 k1 k2 : Tok) (s : api.Value) : List AV := [.int .i64 s.Kind, .str s.Text, .sl k0 1 (s.List_.map AV.str), .sl k1 2 (s.Hash.map api.Field.av), .sl k2 2 (s.ZSet.map api.Scored.av)]

structure api.Entry where
  Key : List UInt8
  Val : api.Value
  At : Int
  deriving Inhabited, DecidableEq
abbrev api.Entry.av (s : api.Entry) : AV := .agg [.str s.Key, .int .i64 s.Val.Kind, .str s.Val.Text, .sl .no 1 (s.Val.List_.map AV.str), .sl .no 2 (s.Val.Hash.map api.Field.av), .sl .no 2 (s.Val.ZSet.map api.Scored.av), .int .i64 s.At]
abbrev api.Entry.wf (s : api.Entry) : Prop := (s.Key.length ≤ 140737488351232) ∧ api.Value.wf s.Val ∧ ((Lit.int .i64 s.At).wf = true) ∧ True

abbrev api.Entry.ct (k0 k1 k2 : Tok) (s : api.Entry) : List AV := [.str s.Key, .int .i64 s.Val.Kind, .str s.Val.Text, .sl k0 1 (s.Val.List_.map AV.str), .sl k1 2 (s.Val.Hash.map api.Field.av), .sl k2 2 (s.Val.ZSet.map api.Scored.av), .int .i64 s.At]

theorem api.Field.eq_iff (x y : api.Field) : decide (x = y) = (decide (x.Key = y.Key) && (decide (x.Val = y.Val) && true)) := by
  cases x; cases y; simp

theorem api.Scored.eq_iff (x y : api.Scored) : decide (x = y) = (decide (x.Member = y.Member) && (decide (x.Score = y.Score) && true)) := by
  cases x; cases y; simp

end Go.Pu
