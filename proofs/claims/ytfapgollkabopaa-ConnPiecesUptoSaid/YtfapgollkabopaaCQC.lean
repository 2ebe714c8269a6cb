/- Printed by lift.py: the same functions, with rounds that are counted. -/
import Derived.Test.YtfapgollkabopaaCQP
set_option maxRecDepth 100000
set_option maxHeartbeats 0
namespace Go.Pu
open Go.Lift

def parse.Limits.c (k : Nat) (l : api.Limits) : Option api.Limits :=
 some ({ Args := if 65536 < (if l.Args < 1 then 1 else l.Args) then 65536 else (if l.Args < 1 then 1 else l.Args), Bulk := if 1048576 < (if l.Bulk < 1 then 1 else l.Bulk) then 1048576 else (if l.Bulk < 1 then 1 else l.Bulk), Line := if 65536 < (if l.Line < 1 then 1 else l.Line) then 65536 else (if l.Line < 1 then 1 else l.Line) } : api.Limits)

theorem parse.Limits.c_le (k : Nat) (l : api.Limits) : OLe (parse.Limits.c k l) (parse.Limits l) := by
 unfold parse.Limits.c parse.Limits
 repeat' with_reducible first | exact OLe.refl _ | apply OLe.bind | apply OLe.need | apply OLe.letO | apply OLe.onSum | apply OLe.ite | intro _

def slices.Clone_string.c (k : Nat) (s : List (List UInt8)) : Option (List (List UInt8)) :=
 need ((([] : List (List UInt8)).length + s.length) * 16 ≤ 140737488355328) <|
 some s

theorem slices.Clone_string.c_le (k : Nat) (s : List (List UInt8)) : OLe (slices.Clone_string.c k s) (slices.Clone_string s) := by
 unfold slices.Clone_string.c slices.Clone_string
 repeat' with_reducible first | exact OLe.refl _ | apply OLe.bind | apply OLe.need | apply OLe.letO | apply OLe.onSum | apply OLe.ite | intro _

def parse.parser.dies.c (k : Nat) (e : Int) (p_ : parse.parser) : Option (Bool × parse.parser) :=
 some (false, { p_ with in_ := ({ Rest := ([] : List UInt8), Args := ([] : List (List UInt8)), Left := 0, Size := 0, Body := false, Need := 0, Dead := e } : api.Input), s := ([] : List UInt8) })

theorem parse.parser.dies.c_le (k : Nat) (e : Int) (p_ : parse.parser) : OLe (parse.parser.dies.c k e p_) (parse.parser.dies e p_) := by
 unfold parse.parser.dies.c parse.parser.dies
 repeat' with_reducible first | exact OLe.refl _ | apply OLe.bind | apply OLe.need | apply OLe.letO | apply OLe.onSum | apply OLe.ite | intro _

def stringslite.Clone.c (k : Nat) (s : List UInt8) : Option (List UInt8) :=
 need (s.length ≤ 281474976710656) <|
 some s

theorem stringslite.Clone.c_le (k : Nat) (s : List UInt8) : OLe (stringslite.Clone.c k s) (stringslite.Clone s) := by
 unfold stringslite.Clone.c stringslite.Clone
 repeat' with_reducible first | exact OLe.refl _ | apply OLe.bind | apply OLe.need | apply OLe.letO | apply OLe.onSum | apply OLe.ite | intro _

def strings.Clone.c (k : Nat) (s_ : List UInt8) : Option (List UInt8) :=
 (stringslite.Clone.c k s_).bind fun r2 =>
 some r2

theorem strings.Clone.c_le (k : Nat) (s_ : List UInt8) : OLe (strings.Clone.c k s_) (strings.Clone s_) := by
 unfold strings.Clone.c strings.Clone
 repeat' with_reducible first | exact OLe.refl _ | apply stringslite.Clone.c_le | apply OLe.bind | apply OLe.need | apply OLe.letO | apply OLe.onSum | apply OLe.ite | intro _

def parse.parser.past.c (k : Nat) (n_ : Int) (p_ : parse.parser) : Option parse.parser :=
 need (InR n_ (p_.s.length : Int) p_.s.length) <|
 some { p_ with in_ := { p_.in_ with Size := IntKind.wrap .i64 (p_.in_.Size + n_) }, s := sub p_.s n_ (p_.s.length : Int) }

theorem parse.parser.past.c_le (k : Nat) (n_ : Int) (p_ : parse.parser) : OLe (parse.parser.past.c k n_ p_) (parse.parser.past n_ p_) := by
 unfold parse.parser.past.c parse.parser.past
 repeat' with_reducible first | exact OLe.refl _ | apply OLe.bind | apply OLe.need | apply OLe.letO | apply OLe.onSum | apply OLe.ite | intro _

def parse.parser.whole.c (k : Nat) (args : List (List UInt8)) (p_ : parse.parser) : Option parse.parser :=
 (
  if 0 < (args.length : Int) then
   need ((p_.out.length + [({ Args := args, Size := p_.in_.Size } : api.Request)].length) * 32 ≤ 140737488355328) <|
   some (p_.out ++ [({ Args := args, Size := p_.in_.Size } : api.Request)])
  else
   some p_.out).bind fun s14 =>
 some { p_ with in_ := ({ Rest := ([] : List UInt8), Args := ([] : List (List UInt8)), Left := 0, Size := 0, Body := false, Need := 0, Dead := 0 } : api.Input), out := s14 }

theorem parse.parser.whole.c_le (k : Nat) (args : List (List UInt8)) (p_ : parse.parser) : OLe (parse.parser.whole.c k args p_) (parse.parser.whole args p_) := by
 unfold parse.parser.whole.c parse.parser.whole
 repeat' with_reducible first | exact OLe.refl _ | apply OLe.bind | apply OLe.need | apply OLe.letO | apply OLe.onSum | apply OLe.ite | intro _

def parse.parser.body.body0.c (k : Nat) (p_ : parse.parser) (s124 : parse.parser.body.S0) : Option (parse.parser.body.S0 ⊕ (Unit ⊕ (Bool × parse.parser))) :=
 if s124.t11 < 2 then
  if (IntKind.wrap .i64 ((p_.s.length : Int) - (if p_.in_.Need < 0 then 0 else p_.in_.Need))) ≤ s124.t11 then
   some (.inr (.inr (false, p_)))
  else
   need (InB (IntKind.wrap .i64 ((if p_.in_.Need < 0 then 0 else p_.in_.Need) + s124.t11)) p_.s.length) <|
   need (InB s124.t11 [13, 10].length) <|
   if (bix p_.s (IntKind.wrap .i64 ((if p_.in_.Need < 0 then 0 else p_.in_.Need) + s124.t11))) = (bix [13, 10] s124.t11) then
    some (.inl ⟨IntKind.wrap .i64 (s124.t11 + 1)⟩)
   else
    (parse.parser.dies.c k 5 p_).bind fun r130 =>
    some (.inr (.inr (r130.1, r130.2)))
 else
  some (.inr (.inl ()))

theorem parse.parser.body.body0.c_le (k : Nat) (p_ : parse.parser) (s124 : parse.parser.body.S0) : OLe (parse.parser.body.body0.c k p_ s124) (parse.parser.body.body0 p_ s124) := by
 unfold parse.parser.body.body0.c parse.parser.body.body0
 repeat' with_reducible first | exact OLe.refl _ | apply parse.parser.dies.c_le | apply OLe.bind | apply OLe.need | apply OLe.letO | apply OLe.onSum | apply OLe.ite | intro _

def parse.parser.body.loop0.c (k : Nat) (p_ : parse.parser) (s124 : parse.parser.body.S0) : Option (Unit ⊕ (Bool × parse.parser)) := iterO (parse.parser.body.body0.c k p_) k s124

theorem parse.parser.body.loop0.c_le (k : Nat) (p_ : parse.parser) (s124 : parse.parser.body.S0) : OLe (parse.parser.body.loop0.c k p_ s124) (parse.parser.body.loop0 p_ s124) := by
 unfold parse.parser.body.loop0.c parse.parser.body.loop0
 exact OLe.iter (fun s => parse.parser.body.body0.c_le k p_ s) k _

def parse.parser.body.c (k : Nat) (p_ : parse.parser) : Option (Bool × parse.parser) :=
 (parse.parser.body.loop0.c k p_ ⟨0⟩).bind fun s155 => onSum s155 (fun s105 =>
  need (InR 0 (if p_.in_.Need < 0 then 0 else p_.in_.Need) p_.s.length) <|
  (strings.Clone.c k (sub p_.s 0 (if p_.in_.Need < 0 then 0 else p_.in_.Need))).bind fun r137 =>
  need ((p_.in_.Args.length + [r137].length) * 16 ≤ 140737488355328) <|
  (parse.parser.past.c k (IntKind.wrap .i64 ((if p_.in_.Need < 0 then 0 else p_.in_.Need) + 2)) { p_ with in_ := ({ Rest := p_.in_.Rest, Args := p_.in_.Args ++ [r137], Left := IntKind.wrap .i64 (p_.in_.Left - 1), Size := p_.in_.Size, Body := false, Need := 0, Dead := p_.in_.Dead } : api.Input) }).bind fun r140 =>
  (
   if r140.in_.Left = 0 then
    (parse.parser.whole.c k r140.in_.Args r140).bind fun r151 =>
    some (r151.in_.Rest, r151.in_.Args, r151.in_.Left, r151.in_.Size, r151.in_.Body, r151.in_.Need, r151.in_.Dead, r151.s, r151.l.Args, r151.l.Bulk, r151.l.Line, r151.out)
   else
    some (r140.in_.Rest, r140.in_.Args, r140.in_.Left, r140.in_.Size, r140.in_.Body, r140.in_.Need, r140.in_.Dead, r140.s, r140.l.Args, r140.l.Bulk, r140.l.Line, r140.out)).bind fun s146 =>
  some (true, ({ in_ := ({ Rest := s146.1, Args := s146.2.1, Left := s146.2.2.1, Size := s146.2.2.2.1, Body := s146.2.2.2.2.1, Need := s146.2.2.2.2.2.1, Dead := s146.2.2.2.2.2.2.1 } : api.Input), s := s146.2.2.2.2.2.2.2.1, l := ({ Args := s146.2.2.2.2.2.2.2.2.1, Bulk := s146.2.2.2.2.2.2.2.2.2.1, Line := s146.2.2.2.2.2.2.2.2.2.2.1 } : api.Limits), out := s146.2.2.2.2.2.2.2.2.2.2.2 } : parse.parser))) fun s155x => some s155x

theorem parse.parser.body.c_le (k : Nat) (p_ : parse.parser) : OLe (parse.parser.body.c k p_) (parse.parser.body p_) := by
 unfold parse.parser.body.c parse.parser.body
 repeat' with_reducible first | exact OLe.refl _ | apply parse.parser.body.loop0.c_le | apply strings.Clone.c_le | apply parse.parser.past.c_le | apply parse.parser.whole.c_le | apply OLe.bind | apply OLe.need | apply OLe.letO | apply OLe.onSum | apply OLe.ite | intro _

def parse.parser.header.body0.c (k : Nat) (p_ : parse.parser) (most : Int) (over : Int) (s389 : parse.parser.header.S0) : Option (parse.parser.header.S0 ⊕ (Unit ⊕ (Int × Bool × parse.parser))) :=
 if s389.i < (p_.s.length : Int) then
  need (InB s389.i p_.s.length) <|
  letO (
   if (bix p_.s s389.i) = 13 then
    decide (1 < s389.i)
   else
    false) fun s395 =>
  if s395 = true then
   if (IntKind.wrap .i64 (s389.i + 1)) = (p_.s.length : Int) then
    some (.inr (.inr (0, false, p_)))
   else
    need (InB (IntKind.wrap .i64 (s389.i + 1)) p_.s.length) <|
    if (bix p_.s (IntKind.wrap .i64 (s389.i + 1))) = 10 then
     (parse.parser.past.c k (IntKind.wrap .i64 (s389.i + 2)) p_).bind fun r403 =>
     some (.inr (.inr (s389.n, true, r403)))
    else
     (parse.parser.dies.c k 5 p_).bind fun r400 =>
     some (.inr (.inr (0, r400.1, r400.2)))
  else
   letO (
    if (bix p_.s s389.i) < 48 then
     true
    else
     if 57 < (bix p_.s s389.i) then
      true
     else
      if 1 < s389.i then
       decide (s389.n = 0)
      else
       false) fun s411 =>
   if s411 = true then
    (parse.parser.dies.c k 5 p_).bind fun r417 =>
    some (.inr (.inr (0, r417.1, r417.2)))
   else
    letO (IntKind.wrap .i64 ((IntKind.wrap .i64 (10 * s389.n)) + (IntKind.wrap .i64 (IntKind.wrap .u8 ((bix p_.s s389.i) - 48))))) fun x420 =>
    if most < x420 then
     (parse.parser.dies.c k over p_).bind fun r421 =>
     some (.inr (.inr (0, r421.1, r421.2)))
    else
     some (.inl ⟨x420, IntKind.wrap .i64 (s389.i + 1)⟩)
 else
  some (.inr (.inl ()))

theorem parse.parser.header.body0.c_le (k : Nat) (p_ : parse.parser) (most : Int) (over : Int) (s389 : parse.parser.header.S0) : OLe (parse.parser.header.body0.c k p_ most over s389) (parse.parser.header.body0 p_ most over s389) := by
 unfold parse.parser.header.body0.c parse.parser.header.body0
 repeat' with_reducible first | exact OLe.refl _ | apply parse.parser.past.c_le | apply parse.parser.dies.c_le | apply OLe.bind | apply OLe.need | apply OLe.letO | apply OLe.onSum | apply OLe.ite | intro _

def parse.parser.header.loop0.c (k : Nat) (p_ : parse.parser) (most : Int) (over : Int) (s389 : parse.parser.header.S0) : Option (Unit ⊕ (Int × Bool × parse.parser)) := iterO (parse.parser.header.body0.c k p_ most over) k s389

theorem parse.parser.header.loop0.c_le (k : Nat) (p_ : parse.parser) (most : Int) (over : Int) (s389 : parse.parser.header.S0) : OLe (parse.parser.header.loop0.c k p_ most over s389) (parse.parser.header.loop0 p_ most over s389) := by
 unfold parse.parser.header.loop0.c parse.parser.header.loop0
 exact OLe.iter (fun s => parse.parser.header.body0.c_le k p_ most over s) k _

def parse.parser.header.c (k : Nat) (mark : Int) (most : Int) (over : Int) (p_ : parse.parser) : Option (Int × Bool × parse.parser) :=
 if p_.s = ([] : List UInt8) then
  some (0, false, p_)
 else
  need (InB 0 p_.s.length) <|
  if (bix p_.s 0) = mark then
   (parse.parser.header.loop0.c k p_ most over ⟨0, 1⟩).bind fun s428 => onSum s428 (fun s320 =>
    some (0, false, p_)) fun s428x => some s428x
  else
   (parse.parser.dies.c k 5 p_).bind fun r215 =>
   some (0, r215.1, r215.2)

theorem parse.parser.header.c_le (k : Nat) (mark : Int) (most : Int) (over : Int) (p_ : parse.parser) : OLe (parse.parser.header.c k mark most over p_) (parse.parser.header mark most over p_) := by
 unfold parse.parser.header.c parse.parser.header
 repeat' with_reducible first | exact OLe.refl _ | apply parse.parser.header.loop0.c_le | apply parse.parser.dies.c_le | apply OLe.bind | apply OLe.need | apply OLe.letO | apply OLe.onSum | apply OLe.ite | intro _

def stringslite.IndexByte.c (k : Nat) (s_ : List UInt8) (c_ : Int) : Option Int :=
 some (Lib.indexByte s_ (u8 c_))

theorem stringslite.IndexByte.c_le (k : Nat) (s_ : List UInt8) (c_ : Int) : OLe (stringslite.IndexByte.c k s_ c_) (stringslite.IndexByte s_ c_) := by
 unfold stringslite.IndexByte.c stringslite.IndexByte
 repeat' with_reducible first | exact OLe.refl _ | apply OLe.bind | apply OLe.need | apply OLe.letO | apply OLe.onSum | apply OLe.ite | intro _

def strings.IndexByte.c (k : Nat) (s_ : List UInt8) (c_ : Int) : Option Int :=
 (stringslite.IndexByte.c k s_ c_).bind fun r2 =>
 some r2

theorem strings.IndexByte.c_le (k : Nat) (s_ : List UInt8) (c_ : Int) : OLe (strings.IndexByte.c k s_ c_) (strings.IndexByte s_ c_) := by
 unfold strings.IndexByte.c strings.IndexByte
 repeat' with_reducible first | exact OLe.refl _ | apply stringslite.IndexByte.c_le | apply OLe.bind | apply OLe.need | apply OLe.letO | apply OLe.onSum | apply OLe.ite | intro _

def stringslite.HasSuffix.c (k : Nat) (s_ : List UInt8) (suffix : List UInt8) : Option Bool :=
 (
  if (suffix.length : Int) ≤ (s_.length : Int) then
   need (InR (IntKind.wrap .i64 ((s_.length : Int) - (suffix.length : Int))) (s_.length : Int) s_.length) <|
   some (decide ((sub s_ (IntKind.wrap .i64 ((s_.length : Int) - (suffix.length : Int))) (s_.length : Int)) = suffix))
  else
   some false).bind fun s10 =>
 some s10

theorem stringslite.HasSuffix.c_le (k : Nat) (s_ : List UInt8) (suffix : List UInt8) : OLe (stringslite.HasSuffix.c k s_ suffix) (stringslite.HasSuffix s_ suffix) := by
 unfold stringslite.HasSuffix.c stringslite.HasSuffix
 repeat' with_reducible first | exact OLe.refl _ | apply OLe.bind | apply OLe.need | apply OLe.letO | apply OLe.onSum | apply OLe.ite | intro _

def stringslite.TrimSuffix.c (k : Nat) (s_ : List UInt8) (suffix : List UInt8) : Option (List UInt8) :=
 (stringslite.HasSuffix.c k s_ suffix).bind fun r4 =>
 if r4 = true then
  need (InR 0 (IntKind.wrap .i64 ((s_.length : Int) - (suffix.length : Int))) s_.length) <|
  some (sub s_ 0 (IntKind.wrap .i64 ((s_.length : Int) - (suffix.length : Int))))
 else
  some s_

theorem stringslite.TrimSuffix.c_le (k : Nat) (s_ : List UInt8) (suffix : List UInt8) : OLe (stringslite.TrimSuffix.c k s_ suffix) (stringslite.TrimSuffix s_ suffix) := by
 unfold stringslite.TrimSuffix.c stringslite.TrimSuffix
 repeat' with_reducible first | exact OLe.refl _ | apply stringslite.HasSuffix.c_le | apply OLe.bind | apply OLe.need | apply OLe.letO | apply OLe.onSum | apply OLe.ite | intro _

def strings.TrimSuffix.c (k : Nat) (s_ : List UInt8) (suffix : List UInt8) : Option (List UInt8) :=
 (stringslite.TrimSuffix.c k s_ suffix).bind fun r2 =>
 some r2

theorem strings.TrimSuffix.c_le (k : Nat) (s_ : List UInt8) (suffix : List UInt8) : OLe (strings.TrimSuffix.c k s_ suffix) (strings.TrimSuffix s_ suffix) := by
 unfold strings.TrimSuffix.c strings.TrimSuffix
 repeat' with_reducible first | exact OLe.refl _ | apply stringslite.TrimSuffix.c_le | apply OLe.bind | apply OLe.need | apply OLe.letO | apply OLe.onSum | apply OLe.ite | intro _

def line.blank.c (k : Nat) (c_ : Int) : Option Bool :=
 letO (
  if c_ = 32 then
   true
  else
   decide (c_ = 9)) fun s7 =>
 some s7

theorem line.blank.c_le (k : Nat) (c_ : Int) : OLe (line.blank.c k c_) (line.blank c_) := by
 unfold line.blank.c line.blank
 repeat' with_reducible first | exact OLe.refl _ | apply OLe.bind | apply OLe.need | apply OLe.letO | apply OLe.onSum | apply OLe.ite | intro _

def line.quoted_1.c (k : Nat) (i : Int) (a1_ : List UInt8) : Option Bool :=
 (
  if i = (a1_.length : Int) then
   some true
  else
   need (InB i a1_.length) <|
   (line.blank.c k (bix a1_ i)).bind fun r18 =>
   some r18).bind fun s13 =>
 some s13

theorem line.quoted_1.c_le (k : Nat) (i : Int) (a1_ : List UInt8) : OLe (line.quoted_1.c k i a1_) (line.quoted_1 i a1_) := by
 unfold line.quoted_1.c line.quoted_1
 repeat' with_reducible first | exact OLe.refl _ | apply line.blank.c_le | apply OLe.bind | apply OLe.need | apply OLe.letO | apply OLe.onSum | apply OLe.ite | intro _

def line.hex.c (k : Nat) (c_ : Int) : Option Int :=
 letO (
  if 48 ≤ c_ then
   decide (c_ ≤ 57)
  else
   false) fun s20 =>
 if s20 = true then
  some (IntKind.wrap .i64 (IntKind.wrap .u8 (c_ - 48)))
 else
  letO (
   if 97 ≤ c_ then
    decide (c_ ≤ 102)
   else
    false) fun s25 =>
  if s25 = true then
   some (IntKind.wrap .i64 ((IntKind.wrap .i64 (IntKind.wrap .u8 (c_ - 97))) + 10))
  else
   letO (
    if 65 ≤ c_ then
     decide (c_ ≤ 70)
    else
     false) fun s30 =>
   if s30 = true then
    some (IntKind.wrap .i64 ((IntKind.wrap .i64 (IntKind.wrap .u8 (c_ - 65))) + 10))
   else
    some (-1)

theorem line.hex.c_le (k : Nat) (c_ : Int) : OLe (line.hex.c k c_) (line.hex c_) := by
 unfold line.hex.c line.hex
 repeat' with_reducible first | exact OLe.refl _ | apply OLe.bind | apply OLe.need | apply OLe.letO | apply OLe.onSum | apply OLe.ite | intro _

def line.turn.c (k : Nat) (s_ : List UInt8) (at_ : Int) : Option (Int × Int) :=
 (
  need (InB at_ s_.length) <|
  if (bix s_ at_) = 120 then
   if (IntKind.wrap .i64 (at_ + 2)) < (s_.length : Int) then
    need (InB (IntKind.wrap .i64 (at_ + 1)) s_.length) <|
    (line.hex.c k (bix s_ (IntKind.wrap .i64 (at_ + 1)))).bind fun r47 =>
    if 0 ≤ r47 then
     need (InB (IntKind.wrap .i64 (at_ + 2)) s_.length) <|
     (line.hex.c k (bix s_ (IntKind.wrap .i64 (at_ + 2)))).bind fun r50 =>
     some (decide (0 ≤ r50))
    else
     some false
   else
    some false
  else
   some false).bind fun s40 =>
 if s40 = true then
  need (InB (IntKind.wrap .i64 (at_ + 1)) s_.length) <|
  (line.hex.c k (bix s_ (IntKind.wrap .i64 (at_ + 1)))).bind fun r52 =>
  need (InB (IntKind.wrap .i64 (at_ + 2)) s_.length) <|
  (line.hex.c k (bix s_ (IntKind.wrap .i64 (at_ + 2)))).bind fun r54 =>
  some (IntKind.wrap .u8 (IntKind.wrap .i64 ((IntKind.wrap .i64 (16 * r52)) + r54)), IntKind.wrap .i64 (at_ + 3))
 else
  need (InB at_ s_.length) <|
  if (bix s_ at_) = 110 then
   some (10, IntKind.wrap .i64 (at_ + 1))
  else
   if (bix s_ at_) = 114 then
    some (13, IntKind.wrap .i64 (at_ + 1))
   else
    if (bix s_ at_) = 116 then
     some (9, IntKind.wrap .i64 (at_ + 1))
    else
     if (bix s_ at_) = 98 then
      some (8, IntKind.wrap .i64 (at_ + 1))
     else
      if (bix s_ at_) = 97 then
       some (7, IntKind.wrap .i64 (at_ + 1))
      else
       need (InB at_ s_.length) <|
       some (bix s_ at_, IntKind.wrap .i64 (at_ + 1))

theorem line.turn.c_le (k : Nat) (s_ : List UInt8) (at_ : Int) : OLe (line.turn.c k s_ at_) (line.turn s_ at_) := by
 unfold line.turn.c line.turn
 repeat' with_reducible first | exact OLe.refl _ | apply line.hex.c_le | apply OLe.bind | apply OLe.need | apply OLe.letO | apply OLe.onSum | apply OLe.ite | intro _

def line.quoted.body0.c (k : Nat) (s_ : List UInt8) (mark : Int) (s414 : line.quoted.S0) : Option (line.quoted.S0 ⊕ (Int ⊕ ((List UInt8) × Int × Bool))) :=
 if s414.at_ < (s_.length : Int) then
  need (InB s414.at_ s_.length) <|
  if (bix s_ s414.at_) = mark then
   (line.quoted_1.c k (IntKind.wrap .i64 (s414.at_ + 1)) s_).bind fun r420 =>
   some (.inr (.inr (s414.b, IntKind.wrap .i64 (s414.at_ + 1), r420)))
  else
   letO (
    if (bix s_ s414.at_) = 92 then
     if mark = 34 then
      decide ((IntKind.wrap .i64 (s414.at_ + 1)) < (s_.length : Int))
     else
      false
    else
     false) fun s423 =>
   if s423 = true then
    (line.turn.c k s_ (IntKind.wrap .i64 (s414.at_ + 1))).bind fun r428 =>
    need (IsU8 r428.1) <|
    need ((s414.b.length + [u8 r428.1].length) * 1 ≤ 140737488355328) <|
    some (.inl ⟨r428.2, s414.b ++ [u8 r428.1]⟩)
   else
    (
     if (bix s_ s414.at_) = 92 then
      if mark = 39 then
       if (IntKind.wrap .i64 (s414.at_ + 1)) < (s_.length : Int) then
        need (InB (IntKind.wrap .i64 (s414.at_ + 1)) s_.length) <|
        some (decide ((bix s_ (IntKind.wrap .i64 (s414.at_ + 1))) = mark))
       else
        some false
      else
       some false
     else
      some false).bind fun s436 =>
    if s436 = true then
     need (IsU8 mark) <|
     need ((s414.b.length + [u8 mark].length) * 1 ≤ 140737488355328) <|
     some (.inl ⟨IntKind.wrap .i64 (s414.at_ + 2), s414.b ++ [u8 mark]⟩)
    else
     need (IsU8 (bix s_ s414.at_)) <|
     need ((s414.b.length + [u8 (bix s_ s414.at_)].length) * 1 ≤ 140737488355328) <|
     some (.inl ⟨IntKind.wrap .i64 (s414.at_ + 1), s414.b ++ [u8 (bix s_ s414.at_)]⟩)
 else
  some (.inr (.inl s414.at_))

theorem line.quoted.body0.c_le (k : Nat) (s_ : List UInt8) (mark : Int) (s414 : line.quoted.S0) : OLe (line.quoted.body0.c k s_ mark s414) (line.quoted.body0 s_ mark s414) := by
 unfold line.quoted.body0.c line.quoted.body0
 repeat' with_reducible first | exact OLe.refl _ | apply line.quoted_1.c_le | apply line.turn.c_le | apply OLe.bind | apply OLe.need | apply OLe.letO | apply OLe.onSum | apply OLe.ite | intro _

def line.quoted.loop0.c (k : Nat) (s_ : List UInt8) (mark : Int) (s414 : line.quoted.S0) : Option (Int ⊕ ((List UInt8) × Int × Bool)) := iterO (line.quoted.body0.c k s_ mark) k s414

theorem line.quoted.loop0.c_le (k : Nat) (s_ : List UInt8) (mark : Int) (s414 : line.quoted.S0) : OLe (line.quoted.loop0.c k s_ mark s414) (line.quoted.loop0 s_ mark s414) := by
 unfold line.quoted.loop0.c line.quoted.loop0
 exact OLe.iter (fun s => line.quoted.body0.c_le k s_ mark s) k _

def line.quoted.c (k : Nat) (s_ : List UInt8) (at_ : Int) (mark : Int) : Option ((List UInt8) × Int × Bool) :=
 (line.quoted.loop0.c k s_ mark ⟨at_, ([] : List UInt8)⟩).bind fun s455 => onSum s455 (fun s340 =>
  some (([] : List UInt8), s340, false)) fun s455x => some s455x

theorem line.quoted.c_le (k : Nat) (s_ : List UInt8) (at_ : Int) (mark : Int) : OLe (line.quoted.c k s_ at_ mark) (line.quoted s_ at_ mark) := by
 unfold line.quoted.c line.quoted
 repeat' with_reducible first | exact OLe.refl _ | apply line.quoted.loop0.c_le | apply OLe.bind | apply OLe.need | apply OLe.letO | apply OLe.onSum | apply OLe.ite | intro _

def line.Split.body2.c (k : Nat) (s_ : List UInt8) (s1484 : line.Split.S2) : Option (line.Split.S2 ⊕ Int) :=
 (
  if s1484.at_ < (s_.length : Int) then
   need (InB s1484.at_ s_.length) <|
   (line.blank.c k (bix s_ s1484.at_)).bind fun r1496 =>
   some r1496
  else
   some false).bind fun s1491 =>
 if s1491 = true then
  some (.inl ⟨IntKind.wrap .i64 (s1484.at_ + 1)⟩)
 else
  some (.inr s1484.at_)

theorem line.Split.body2.c_le (k : Nat) (s_ : List UInt8) (s1484 : line.Split.S2) : OLe (line.Split.body2.c k s_ s1484) (line.Split.body2 s_ s1484) := by
 unfold line.Split.body2.c line.Split.body2
 repeat' with_reducible first | exact OLe.refl _ | apply line.blank.c_le | apply OLe.bind | apply OLe.need | apply OLe.letO | apply OLe.onSum | apply OLe.ite | intro _

def line.Split.loop2.c (k : Nat) (s_ : List UInt8) (s1484 : line.Split.S2) : Option Int := iterO (line.Split.body2.c k s_) k s1484

theorem line.Split.loop2.c_le (k : Nat) (s_ : List UInt8) (s1484 : line.Split.S2) : OLe (line.Split.loop2.c k s_ s1484) (line.Split.loop2 s_ s1484) := by
 unfold line.Split.loop2.c line.Split.loop2
 exact OLe.iter (fun s => line.Split.body2.c_le k s_ s) k _

def line.Split.body4.c (k : Nat) (s_ : List UInt8) (s1664 : line.Split.S4) : Option (line.Split.S4 ⊕ ((Int × (List UInt8)) ⊕ (line.Split.S0 ⊕ ((List (List UInt8)) × Bool)))) :=
 (
  if s1664.at_ < (s_.length : Int) then
   need (InB s1664.at_ s_.length) <|
   (line.blank.c k (bix s_ s1664.at_)).bind fun r1677 =>
   some (!r1677)
  else
   some false).bind fun s1672 =>
 if s1672 = true then
  (
   need (InB s1664.at_ s_.length) <|
   if (bix s_ s1664.at_) = 34 then
    some false
   else
    need (InB s1664.at_ s_.length) <|
    some (!decide ((bix s_ s1664.at_) = 39))).bind fun s1681 =>
  if s1681 = true then
   need (InB s1664.at_ s_.length) <|
   need (IsU8 (bix s_ s1664.at_)) <|
   need ((s1664.b.length + [u8 (bix s_ s1664.at_)].length) * 1 ≤ 140737488355328) <|
   some (.inl ⟨IntKind.wrap .i64 (s1664.at_ + 1), s1664.b ++ [u8 (bix s_ s1664.at_)]⟩)
  else
   need (InB s1664.at_ s_.length) <|
   (line.quoted.c k s_ (IntKind.wrap .i64 (s1664.at_ + 1)) (bix s_ s1664.at_)).bind fun r1692 =>
   if (!r1692.2.2) = true then
    some (.inr (.inr (.inr (([] : List (List UInt8)), false))))
   else
    need ((s1664.b.length + r1692.1.length) * 1 ≤ 140737488355328) <|
    some (.inl ⟨r1692.2.1, s1664.b ++ r1692.1⟩)
 else
  some (.inr (.inl (s1664.at_, s1664.b)))

theorem line.Split.body4.c_le (k : Nat) (s_ : List UInt8) (s1664 : line.Split.S4) : OLe (line.Split.body4.c k s_ s1664) (line.Split.body4 s_ s1664) := by
 unfold line.Split.body4.c line.Split.body4
 repeat' with_reducible first | exact OLe.refl _ | apply line.blank.c_le | apply line.quoted.c_le | apply OLe.bind | apply OLe.need | apply OLe.letO | apply OLe.onSum | apply OLe.ite | intro _

def line.Split.loop4.c (k : Nat) (s_ : List UInt8) (s1664 : line.Split.S4) : Option ((Int × (List UInt8)) ⊕ (line.Split.S0 ⊕ ((List (List UInt8)) × Bool))) := iterO (line.Split.body4.c k s_) k s1664

theorem line.Split.loop4.c_le (k : Nat) (s_ : List UInt8) (s1664 : line.Split.S4) : OLe (line.Split.loop4.c k s_ s1664) (line.Split.loop4 s_ s1664) := by
 unfold line.Split.loop4.c line.Split.loop4
 exact OLe.iter (fun s => line.Split.body4.c_le k s_ s) k _

def line.Split.body0.c (k : Nat) (s_ : List UInt8) (s1418 : line.Split.S0) : Option (line.Split.S0 ⊕ ((List (List UInt8)) × Bool)) :=
 (line.Split.loop2.c k s_ ⟨s1418.at_⟩).bind fun s1459 =>
 if s1459 = (s_.length : Int) then
  some (.inr (s1418.out, true))
 else
  (line.Split.loop4.c k s_ ⟨s1459, ([] : List UInt8)⟩).bind fun s1703 => onSum s1703 (fun s1597 =>
   need ((s1418.out.length + [s1597.2].length) * 16 ≤ 140737488355328) <|
   some (.inl ⟨s1418.out ++ [s1597.2], s1597.1⟩)) fun s1703x => some s1703x

theorem line.Split.body0.c_le (k : Nat) (s_ : List UInt8) (s1418 : line.Split.S0) : OLe (line.Split.body0.c k s_ s1418) (line.Split.body0 s_ s1418) := by
 unfold line.Split.body0.c line.Split.body0
 repeat' with_reducible first | exact OLe.refl _ | apply line.Split.loop2.c_le | apply line.Split.loop4.c_le | apply OLe.bind | apply OLe.need | apply OLe.letO | apply OLe.onSum | apply OLe.ite | intro _

def line.Split.loop0.c (k : Nat) (s_ : List UInt8) (s1418 : line.Split.S0) : Option ((List (List UInt8)) × Bool) := iterO (line.Split.body0.c k s_) k s1418

theorem line.Split.loop0.c_le (k : Nat) (s_ : List UInt8) (s1418 : line.Split.S0) : OLe (line.Split.loop0.c k s_ s1418) (line.Split.loop0 s_ s1418) := by
 unfold line.Split.loop0.c line.Split.loop0
 exact OLe.iter (fun s => line.Split.body0.c_le k s_ s) k _

def line.Split.c (k : Nat) (s_ : List UInt8) : Option ((List (List UInt8)) × Bool) :=
 line.Split.loop0.c k s_ ⟨([] : List (List UInt8)), 0⟩

theorem line.Split.c_le (k : Nat) (s_ : List UInt8) : OLe (line.Split.c k s_) (line.Split s_) := by
 unfold line.Split.c line.Split
 repeat' with_reducible first | exact OLe.refl _ | apply line.Split.loop0.c_le | apply OLe.bind | apply OLe.need | apply OLe.letO | apply OLe.onSum | apply OLe.ite | intro _

def parse.parser.line_1.c (k : Nat) (s_ : List UInt8) (b1_ : parse.parser) : Option Bool :=
 some (decide (b1_.l.Bulk < (s_.length : Int)))

theorem parse.parser.line_1.c_le (k : Nat) (s_ : List UInt8) (b1_ : parse.parser) : OLe (parse.parser.line_1.c k s_ b1_) (parse.parser.line_1 s_ b1_) := by
 unfold parse.parser.line_1.c parse.parser.line_1
 repeat' with_reducible first | exact OLe.refl _ | apply OLe.bind | apply OLe.need | apply OLe.letO | apply OLe.onSum | apply OLe.ite | intro _

def slices.IndexFunc_string_parse_parser_line_1.body0.c (k : Nat) (s_ : List (List UInt8)) (b1_ : parse.parser) (s112 : slices.IndexFunc_string_parse_parser_line_1.S0) : Option (slices.IndexFunc_string_parse_parser_line_1.S0 ⊕ (Unit ⊕ Int)) :=
 if s112.t8 < (s_.length : Int) then
  need (InB s112.t8 s_.length) <|
  (parse.parser.line_1.c k (ix s_ s112.t8) b1_).bind fun r119 =>
  if r119 = true then
   some (.inr (.inr s112.t8))
  else
   some (.inl ⟨IntKind.wrap .i64 (s112.t8 + 1)⟩)
 else
  some (.inr (.inl ()))

theorem slices.IndexFunc_string_parse_parser_line_1.body0.c_le (k : Nat) (s_ : List (List UInt8)) (b1_ : parse.parser) (s112 : slices.IndexFunc_string_parse_parser_line_1.S0) : OLe (slices.IndexFunc_string_parse_parser_line_1.body0.c k s_ b1_ s112) (slices.IndexFunc_string_parse_parser_line_1.body0 s_ b1_ s112) := by
 unfold slices.IndexFunc_string_parse_parser_line_1.body0.c slices.IndexFunc_string_parse_parser_line_1.body0
 repeat' with_reducible first | exact OLe.refl _ | apply parse.parser.line_1.c_le | apply OLe.bind | apply OLe.need | apply OLe.letO | apply OLe.onSum | apply OLe.ite | intro _

def slices.IndexFunc_string_parse_parser_line_1.loop0.c (k : Nat) (s_ : List (List UInt8)) (b1_ : parse.parser) (s112 : slices.IndexFunc_string_parse_parser_line_1.S0) : Option (Unit ⊕ Int) := iterO (slices.IndexFunc_string_parse_parser_line_1.body0.c k s_ b1_) k s112

theorem slices.IndexFunc_string_parse_parser_line_1.loop0.c_le (k : Nat) (s_ : List (List UInt8)) (b1_ : parse.parser) (s112 : slices.IndexFunc_string_parse_parser_line_1.S0) : OLe (slices.IndexFunc_string_parse_parser_line_1.loop0.c k s_ b1_ s112) (slices.IndexFunc_string_parse_parser_line_1.loop0 s_ b1_ s112) := by
 unfold slices.IndexFunc_string_parse_parser_line_1.loop0.c slices.IndexFunc_string_parse_parser_line_1.loop0
 exact OLe.iter (fun s => slices.IndexFunc_string_parse_parser_line_1.body0.c_le k s_ b1_ s) k _

def slices.IndexFunc_string_parse_parser_line_1.c (k : Nat) (s_ : List (List UInt8)) (b1_ : parse.parser) : Option Int :=
 (slices.IndexFunc_string_parse_parser_line_1.loop0.c k s_ b1_ ⟨0⟩).bind fun s124 => onSum s124 (fun s91 =>
  some (-1)) fun s124x => some s124x

theorem slices.IndexFunc_string_parse_parser_line_1.c_le (k : Nat) (s_ : List (List UInt8)) (b1_ : parse.parser) : OLe (slices.IndexFunc_string_parse_parser_line_1.c k s_ b1_) (slices.IndexFunc_string_parse_parser_line_1 s_ b1_) := by
 unfold slices.IndexFunc_string_parse_parser_line_1.c slices.IndexFunc_string_parse_parser_line_1
 repeat' with_reducible first | exact OLe.refl _ | apply slices.IndexFunc_string_parse_parser_line_1.loop0.c_le | apply OLe.bind | apply OLe.need | apply OLe.letO | apply OLe.onSum | apply OLe.ite | intro _

def slices.ContainsFunc_string_parse_parser_line_1.c (k : Nat) (s_ : List (List UInt8)) (b1_ : parse.parser) : Option Bool :=
 (slices.IndexFunc_string_parse_parser_line_1.c k s_ b1_).bind fun r4 =>
 some (decide (0 ≤ r4))

theorem slices.ContainsFunc_string_parse_parser_line_1.c_le (k : Nat) (s_ : List (List UInt8)) (b1_ : parse.parser) : OLe (slices.ContainsFunc_string_parse_parser_line_1.c k s_ b1_) (slices.ContainsFunc_string_parse_parser_line_1 s_ b1_) := by
 unfold slices.ContainsFunc_string_parse_parser_line_1.c slices.ContainsFunc_string_parse_parser_line_1
 repeat' with_reducible first | exact OLe.refl _ | apply slices.IndexFunc_string_parse_parser_line_1.c_le | apply OLe.bind | apply OLe.need | apply OLe.letO | apply OLe.onSum | apply OLe.ite | intro _

def parse.parser.line.c (k : Nat) (p_ : parse.parser) : Option (Bool × parse.parser) :=
 (strings.IndexByte.c k p_.s 10).bind fun r36 =>
 letO (
  if r36 < 0 then
   if p_.l.Line < (p_.s.length : Int) then
    true
   else
    decide (p_.l.Line < r36)
  else
   decide (p_.l.Line < r36)) fun s39 =>
 if s39 = true then
  (parse.parser.dies.c k 6 p_).bind fun r44 =>
  some (r44.1, r44.2)
 else
  if r36 < 0 then
   some (false, p_)
  else
   need (InR 0 r36 p_.s.length) <|
   (strings.TrimSuffix.c k (sub p_.s 0 r36) [13]).bind fun r48 =>
   (line.Split.c k r48).bind fun r49 =>
   if (!r49.2) = true then
    (parse.parser.dies.c k 16 p_).bind fun r51 =>
    some (r51.1, r51.2)
   else
    if p_.l.Args < (r49.1.length : Int) then
     (parse.parser.dies.c k 7 p_).bind fun r54 =>
     some (r54.1, r54.2)
    else
     (slices.ContainsFunc_string_parse_parser_line_1.c k r49.1 p_).bind fun r57 =>
     if r57 = true then
      (parse.parser.dies.c k 6 p_).bind fun r60 =>
      some (r60.1, r60.2)
     else
      (parse.parser.past.c k (IntKind.wrap .i64 (r36 + 1)) p_).bind fun r63 =>
      (parse.parser.whole.c k r49.1 r63).bind fun r66 =>
      some (true, r66)

theorem parse.parser.line.c_le (k : Nat) (p_ : parse.parser) : OLe (parse.parser.line.c k p_) (parse.parser.line p_) := by
 unfold parse.parser.line.c parse.parser.line
 repeat' with_reducible first | exact OLe.refl _ | apply strings.IndexByte.c_le | apply parse.parser.dies.c_le | apply strings.TrimSuffix.c_le | apply line.Split.c_le | apply slices.ContainsFunc_string_parse_parser_line_1.c_le | apply parse.parser.past.c_le | apply parse.parser.whole.c_le | apply OLe.bind | apply OLe.need | apply OLe.letO | apply OLe.onSum | apply OLe.ite | intro _

def parse.parser.step.c (k : Nat) (p_ : parse.parser) : Option (Bool × parse.parser) :=
 if p_.in_.Body = true then
  (parse.parser.body.c k p_).bind fun r50 =>
  some (r50.1, r50.2)
 else
  if 0 < p_.in_.Left then
   (parse.parser.header.c k 36 p_.l.Bulk 6 p_).bind fun r53 =>
   letO (
    if r53.2.1 = true then
     (true, r53.1)
    else
     (r53.2.2.in_.Body, r53.2.2.in_.Need)) fun s57 =>
   some (r53.2.1, { r53.2.2 with in_ := { r53.2.2.in_ with Body := s57.1, Need := s57.2 } })
  else
   if p_.s = ([] : List UInt8) then
    some (false, p_)
   else
    need (InB 0 p_.s.length) <|
    if (bix p_.s 0) = 42 then
     (parse.parser.header.c k 42 p_.l.Args 7 p_).bind fun r65 =>
     letO (
      if r65.2.1 = true then
       r65.1
      else
       r65.2.2.in_.Left) fun s69 =>
     (
      letO (
       if r65.2.1 = true then
        decide (r65.1 = 0)
       else
        false) fun s87 =>
      if s87 = true then
       (parse.parser.whole.c k ([] : List (List UInt8)) { r65.2.2 with in_ := { r65.2.2.in_ with Left := s69 } }).bind fun r91 =>
       some (r91.in_.Rest, r91.in_.Args, r91.in_.Left, r91.in_.Size, r91.in_.Body, r91.in_.Need, r91.in_.Dead, r91.s, r91.l.Args, r91.l.Bulk, r91.l.Line, r91.out)
      else
       some (r65.2.2.in_.Rest, r65.2.2.in_.Args, s69, r65.2.2.in_.Size, r65.2.2.in_.Body, r65.2.2.in_.Need, r65.2.2.in_.Dead, r65.2.2.s, r65.2.2.l.Args, r65.2.2.l.Bulk, r65.2.2.l.Line, r65.2.2.out)).bind fun s81 =>
     some (r65.2.1, ({ in_ := ({ Rest := s81.1, Args := s81.2.1, Left := s81.2.2.1, Size := s81.2.2.2.1, Body := s81.2.2.2.2.1, Need := s81.2.2.2.2.2.1, Dead := s81.2.2.2.2.2.2.1 } : api.Input), s := s81.2.2.2.2.2.2.2.1, l := ({ Args := s81.2.2.2.2.2.2.2.2.1, Bulk := s81.2.2.2.2.2.2.2.2.2.1, Line := s81.2.2.2.2.2.2.2.2.2.2.1 } : api.Limits), out := s81.2.2.2.2.2.2.2.2.2.2.2 } : parse.parser))
    else
     (parse.parser.line.c k p_).bind fun r62 =>
     some (r62.1, r62.2)

theorem parse.parser.step.c_le (k : Nat) (p_ : parse.parser) : OLe (parse.parser.step.c k p_) (parse.parser.step p_) := by
 unfold parse.parser.step.c parse.parser.step
 repeat' with_reducible first | exact OLe.refl _ | apply parse.parser.body.c_le | apply parse.parser.header.c_le | apply parse.parser.whole.c_le | apply parse.parser.line.c_le | apply OLe.bind | apply OLe.need | apply OLe.letO | apply OLe.onSum | apply OLe.ite | intro _

def parse.Feed.body0.c (k : Nat) (in_ : api.Input) (l : api.Limits) (s115 : parse.Feed.S0) : Option (parse.Feed.S0 ⊕ ((List UInt8) × (List (List UInt8)) × Int × Int × Bool × Int × Int × (List UInt8) × Int × Int × Int × (List api.Request))) :=
 (parse.parser.step.c k ({ in_ := ({ Rest := s115.c, Args := s115.c2, Left := s115.c3, Size := s115.c4, Body := s115.c5, Need := s115.c6, Dead := s115.c7 } : api.Input), s := s115.c8, l := ({ Args := s115.c9, Bulk := s115.c10, Line := s115.c11 } : api.Limits), out := s115.c12 } : parse.parser)).bind fun r121 =>
 if r121.1 = true then
  some (.inl ⟨r121.2.in_.Rest, r121.2.in_.Args, r121.2.in_.Left, r121.2.in_.Size, r121.2.in_.Body, r121.2.in_.Need, r121.2.in_.Dead, r121.2.s, r121.2.l.Args, r121.2.l.Bulk, r121.2.l.Line, r121.2.out⟩)
 else
  some (.inr (r121.2.in_.Rest, r121.2.in_.Args, r121.2.in_.Left, r121.2.in_.Size, r121.2.in_.Body, r121.2.in_.Need, r121.2.in_.Dead, r121.2.s, r121.2.l.Args, r121.2.l.Bulk, r121.2.l.Line, r121.2.out))

theorem parse.Feed.body0.c_le (k : Nat) (in_ : api.Input) (l : api.Limits) (s115 : parse.Feed.S0) : OLe (parse.Feed.body0.c k in_ l s115) (parse.Feed.body0 in_ l s115) := by
 unfold parse.Feed.body0.c parse.Feed.body0
 repeat' with_reducible first | exact OLe.refl _ | apply parse.parser.step.c_le | apply OLe.bind | apply OLe.need | apply OLe.letO | apply OLe.onSum | apply OLe.ite | intro _

def parse.Feed.loop0.c (k : Nat) (in_ : api.Input) (l : api.Limits) (s115 : parse.Feed.S0) : Option ((List UInt8) × (List (List UInt8)) × Int × Int × Bool × Int × Int × (List UInt8) × Int × Int × Int × (List api.Request)) := iterO (parse.Feed.body0.c k in_ l) k s115

theorem parse.Feed.loop0.c_le (k : Nat) (in_ : api.Input) (l : api.Limits) (s115 : parse.Feed.S0) : OLe (parse.Feed.loop0.c k in_ l s115) (parse.Feed.loop0 in_ l s115) := by
 unfold parse.Feed.loop0.c parse.Feed.loop0
 exact OLe.iter (fun s => parse.Feed.body0.c_le k in_ l s) k _

def parse.Feed.c (k : Nat) (in_ : api.Input) (b : List UInt8) (l : api.Limits) : Option (api.Input × (List api.Request) × Int) :=
 if in_.Dead = 0 then
  need (in_.Rest.length + b.length ≤ 9223372036854775807) <|
  (parse.Limits.c k l).bind fun r69 =>
  (slices.Clone_string.c k in_.Args).bind fun r71 =>
  (parse.Feed.loop0.c k in_ l ⟨([] : List UInt8), r71, in_.Left, in_.Size, in_.Body, in_.Need, in_.Dead, in_.Rest ++ b, r69.Args, r69.Bulk, r69.Line, ([] : List api.Request)⟩).bind fun s97 =>
  (strings.Clone.c k s97.2.2.2.2.2.2.2.1).bind fun r126 =>
  some (({ Rest := r126, Args := s97.2.1, Left := s97.2.2.1, Size := s97.2.2.2.1, Body := s97.2.2.2.2.1, Need := s97.2.2.2.2.2.1, Dead := s97.2.2.2.2.2.2.1 } : api.Input), s97.2.2.2.2.2.2.2.2.2.2.2, s97.2.2.2.2.2.2.1)
 else
  some (({ Rest := ([] : List UInt8), Args := ([] : List (List UInt8)), Left := 0, Size := 0, Body := false, Need := 0, Dead := in_.Dead } : api.Input), ([] : List api.Request), in_.Dead)

theorem parse.Feed.c_le (k : Nat) (in_ : api.Input) (b : List UInt8) (l : api.Limits) : OLe (parse.Feed.c k in_ b l) (parse.Feed in_ b l) := by
 unfold parse.Feed.c parse.Feed
 repeat' with_reducible first | exact OLe.refl _ | apply parse.Limits.c_le | apply slices.Clone_string.c_le | apply parse.Feed.loop0.c_le | apply strings.Clone.c_le | apply OLe.bind | apply OLe.need | apply OLe.letO | apply OLe.onSum | apply OLe.ite | intro _

def mewsref05.texts.body0.c (k : Nat) (a : List (List UInt8)) (b : List (List UInt8)) (s73 : mewsref05.texts.S0) : Option (mewsref05.texts.S0 ⊕ (Unit ⊕ Bool)) :=
 if s73.i < (a.length : Int) then
  need (InB s73.i a.length) <|
  need (InB s73.i b.length) <|
  if (ix a s73.i) = (ix b s73.i) then
   some (.inl ⟨IntKind.wrap .i64 (s73.i + 1)⟩)
  else
   some (.inr (.inr false))
 else
  some (.inr (.inl ()))

theorem mewsref05.texts.body0.c_le (k : Nat) (a : List (List UInt8)) (b : List (List UInt8)) (s73 : mewsref05.texts.S0) : OLe (mewsref05.texts.body0.c k a b s73) (mewsref05.texts.body0 a b s73) := by
 unfold mewsref05.texts.body0.c mewsref05.texts.body0
 repeat' with_reducible first | exact OLe.refl _ | apply OLe.bind | apply OLe.need | apply OLe.letO | apply OLe.onSum | apply OLe.ite | intro _

def mewsref05.texts.loop0.c (k : Nat) (a : List (List UInt8)) (b : List (List UInt8)) (s73 : mewsref05.texts.S0) : Option (Unit ⊕ Bool) := iterO (mewsref05.texts.body0.c k a b) k s73

theorem mewsref05.texts.loop0.c_le (k : Nat) (a : List (List UInt8)) (b : List (List UInt8)) (s73 : mewsref05.texts.S0) : OLe (mewsref05.texts.loop0.c k a b s73) (mewsref05.texts.loop0 a b s73) := by
 unfold mewsref05.texts.loop0.c mewsref05.texts.loop0
 exact OLe.iter (fun s => mewsref05.texts.body0.c_le k a b s) k _

def mewsref05.texts.c (k : Nat) (a : List (List UInt8)) (b : List (List UInt8)) : Option Bool :=
 if (a.length : Int) = (b.length : Int) then
  (mewsref05.texts.loop0.c k a b ⟨0⟩).bind fun s81 => onSum s81 (fun s60 =>
   some true) fun s81x => some s81x
 else
  some false

theorem mewsref05.texts.c_le (k : Nat) (a : List (List UInt8)) (b : List (List UInt8)) : OLe (mewsref05.texts.c k a b) (mewsref05.texts a b) := by
 unfold mewsref05.texts.c mewsref05.texts
 repeat' with_reducible first | exact OLe.refl _ | apply mewsref05.texts.loop0.c_le | apply OLe.bind | apply OLe.need | apply OLe.letO | apply OLe.onSum | apply OLe.ite | intro _

def mewsref05.Same.body0.c (k : Nat) (a : List api.Request) (b : List api.Request) (s216 : mewsref05.Same.S0) : Option (mewsref05.Same.S0 ⊕ (Unit ⊕ Bool)) :=
 if s216.i < (a.length : Int) then
  (
   need (InB s216.i a.length) <|
   need (InB s216.i b.length) <|
   if (ix a s216.i).Size = (ix b s216.i).Size then
    need (InB s216.i a.length) <|
    need (InB s216.i b.length) <|
    (mewsref05.texts.c k (ix a s216.i).Args (ix b s216.i).Args).bind fun r234 =>
    some (!r234)
   else
    some true).bind fun s226 =>
  if s226 = true then
   some (.inr (.inr false))
  else
   some (.inl ⟨IntKind.wrap .i64 (s216.i + 1)⟩)
 else
  some (.inr (.inl ()))

theorem mewsref05.Same.body0.c_le (k : Nat) (a : List api.Request) (b : List api.Request) (s216 : mewsref05.Same.S0) : OLe (mewsref05.Same.body0.c k a b s216) (mewsref05.Same.body0 a b s216) := by
 unfold mewsref05.Same.body0.c mewsref05.Same.body0
 repeat' with_reducible first | exact OLe.refl _ | apply mewsref05.texts.c_le | apply OLe.bind | apply OLe.need | apply OLe.letO | apply OLe.onSum | apply OLe.ite | intro _

def mewsref05.Same.loop0.c (k : Nat) (a : List api.Request) (b : List api.Request) (s216 : mewsref05.Same.S0) : Option (Unit ⊕ Bool) := iterO (mewsref05.Same.body0.c k a b) k s216

theorem mewsref05.Same.loop0.c_le (k : Nat) (a : List api.Request) (b : List api.Request) (s216 : mewsref05.Same.S0) : OLe (mewsref05.Same.loop0.c k a b s216) (mewsref05.Same.loop0 a b s216) := by
 unfold mewsref05.Same.loop0.c mewsref05.Same.loop0
 exact OLe.iter (fun s => mewsref05.Same.body0.c_le k a b s) k _

def mewsref05.Same.c (k : Nat) (a : List api.Request) (b : List api.Request) : Option Bool :=
 if (a.length : Int) = (b.length : Int) then
  (mewsref05.Same.loop0.c k a b ⟨0⟩).bind fun s237 => onSum s237 (fun s177 =>
   some true) fun s237x => some s237x
 else
  some false

theorem mewsref05.Same.c_le (k : Nat) (a : List api.Request) (b : List api.Request) : OLe (mewsref05.Same.c k a b) (mewsref05.Same a b) := by
 unfold mewsref05.Same.c mewsref05.Same
 repeat' with_reducible first | exact OLe.refl _ | apply mewsref05.Same.loop0.c_le | apply OLe.bind | apply OLe.need | apply OLe.letO | apply OLe.onSum | apply OLe.ite | intro _

def parse.Idle.c (k : Nat) (in_ : api.Input) : Option Bool :=
 letO (
  if in_.Rest = ([] : List UInt8) then
   if in_.Size = 0 then
    decide (in_.Dead = 0)
   else
    false
  else
   false) fun s12 =>
 some s12

theorem parse.Idle.c_le (k : Nat) (in_ : api.Input) : OLe (parse.Idle.c k in_) (parse.Idle in_) := by
 unfold parse.Idle.c parse.Idle
 repeat' with_reducible first | exact OLe.refl _ | apply OLe.bind | apply OLe.need | apply OLe.letO | apply OLe.onSum | apply OLe.ite | intro _

def mewslaw05.alive.c (k : Nat)  : Option Bool :=
 (parse.Feed.c k ({ Rest := ([] : List UInt8), Args := ([] : List (List UInt8)), Left := 0, Size := 0, Body := false, Need := 0, Dead := 0 } : api.Input) [42, 49, 13, 10, 36, 52, 13, 10, 80, 73] ({ Args := 9, Bulk := 9, Line := 9 } : api.Limits)).bind fun r23 =>
 (parse.Feed.c k r23.1 [78, 71, 13, 10, 71, 69, 84, 32, 97, 10] ({ Args := 9, Bulk := 9, Line := 9 } : api.Limits)).bind fun r26 =>
 (
  if (r23.2.1.length : Int) = 0 then
   if r23.2.2 = 0 then
    if r26.2.2 = 0 then
     (mewsref05.Same.c k r26.2.1 [({ Args := [[80, 73, 78, 71]], Size := 14 } : api.Request), ({ Args := [[71, 69, 84], [97]], Size := 6 } : api.Request)]).bind fun r40 =>
     if r40 = true then
      (parse.Idle.c k r26.1).bind fun r42 =>
      some r42
     else
      some false
    else
     some false
   else
    some false
  else
   some false).bind fun s34 =>
 some s34

theorem mewslaw05.alive.c_le (k : Nat)  : OLe (mewslaw05.alive.c k ) (mewslaw05.alive ) := by
 unfold mewslaw05.alive.c mewslaw05.alive
 repeat' with_reducible first | exact OLe.refl _ | apply parse.Feed.c_le | apply mewsref05.Same.c_le | apply parse.Idle.c_le | apply OLe.bind | apply OLe.need | apply OLe.letO | apply OLe.onSum | apply OLe.ite | intro _

def conn.Open.c (k : Nat) (now : Int) : Option api.Conn :=
 some ({ Born := now, Tenant := (-1), In := ({ Rest := ([] : List UInt8), Args := ([] : List (List UInt8)), Left := 0, Size := 0, Body := false, Need := 0, Dead := 0 } : api.Input), Asked := 0, Held := ([] : List api.Held), Out := ([] : List UInt8), Taken := 0, Shut := false, Closed := false } : api.Conn)

theorem conn.Open.c_le (k : Nat) (now : Int) : OLe (conn.Open.c k now) (conn.Open now) := by
 unfold conn.Open.c conn.Open
 repeat' with_reducible first | exact OLe.refl _ | apply OLe.bind | apply OLe.need | apply OLe.letO | apply OLe.onSum | apply OLe.ite | intro _

def slices.Clone_api_Held.c (k : Nat) (s : List api.Held) : Option (List api.Held) :=
 need ((([] : List api.Held).length + s.length) * 24 ≤ 140737488355328) <|
 some s

theorem slices.Clone_api_Held.c_le (k : Nat) (s : List api.Held) : OLe (slices.Clone_api_Held.c k s) (slices.Clone_api_Held s) := by
 unfold slices.Clone_api_Held.c slices.Clone_api_Held
 repeat' with_reducible first | exact OLe.refl _ | apply OLe.bind | apply OLe.need | apply OLe.letO | apply OLe.onSum | apply OLe.ite | intro _

def conn.Free.body0.c (k : Nat) (c_ : api.Conn) (durable : Int) (s98 : conn.Free.S0) : Option (conn.Free.S0 ⊕ (Int × (List UInt8))) :=
 if s98.n < (c_.Held.length : Int) then
  need (InB s98.n c_.Held.length) <|
  if durable < (ix c_.Held s98.n).Need then
   some (.inr (s98.n, s98.c))
  else
   need (s98.c.length + (ix c_.Held s98.n).S.length ≤ 9223372036854775807) <|
   some (.inl ⟨IntKind.wrap .i64 (s98.n + 1), s98.c ++ (ix c_.Held s98.n).S⟩)
 else
  some (.inr (s98.n, s98.c))

theorem conn.Free.body0.c_le (k : Nat) (c_ : api.Conn) (durable : Int) (s98 : conn.Free.S0) : OLe (conn.Free.body0.c k c_ durable s98) (conn.Free.body0 c_ durable s98) := by
 unfold conn.Free.body0.c conn.Free.body0
 repeat' with_reducible first | exact OLe.refl _ | apply OLe.bind | apply OLe.need | apply OLe.letO | apply OLe.onSum | apply OLe.ite | intro _

def conn.Free.loop0.c (k : Nat) (c_ : api.Conn) (durable : Int) (s98 : conn.Free.S0) : Option (Int × (List UInt8)) := iterO (conn.Free.body0.c k c_ durable) k s98

theorem conn.Free.loop0.c_le (k : Nat) (c_ : api.Conn) (durable : Int) (s98 : conn.Free.S0) : OLe (conn.Free.loop0.c k c_ durable s98) (conn.Free.loop0 c_ durable s98) := by
 unfold conn.Free.loop0.c conn.Free.loop0
 exact OLe.iter (fun s => conn.Free.body0.c_le k c_ durable s) k _

def conn.Free.c (k : Nat) (c_ : api.Conn) (durable : Int) : Option api.Conn :=
 (conn.Free.loop0.c k c_ durable ⟨0, c_.Out⟩).bind fun s83 =>
 need (InR s83.1 (c_.Held.length : Int) c_.Held.length) <|
 (slices.Clone_api_Held.c k (sub c_.Held s83.1 (c_.Held.length : Int))).bind fun r108 =>
 letO (
  if c_.Closed = true then
   true
  else
   if c_.Shut = true then
    if c_.Asked = 0 then
     decide ((r108.length : Int) = 0)
    else
     false
   else
    false) fun s113 =>
 some { c_ with Held := r108, Out := s83.2, Closed := s113 }

theorem conn.Free.c_le (k : Nat) (c_ : api.Conn) (durable : Int) : OLe (conn.Free.c k c_ durable) (conn.Free c_ durable) := by
 unfold conn.Free.c conn.Free
 repeat' with_reducible first | exact OLe.refl _ | apply conn.Free.loop0.c_le | apply slices.Clone_api_Held.c_le | apply OLe.bind | apply OLe.need | apply OLe.letO | apply OLe.onSum | apply OLe.ite | intro _

def conn.Pending.body0.c (k : Nat) (c_ : api.Conn) (s62 : conn.Pending.S0) : Option (conn.Pending.S0 ⊕ Int) :=
 if s62.t12 < (c_.Held.length : Int) then
  need (InB s62.t12 c_.Held.length) <|
  some (.inl ⟨IntKind.wrap .i64 (s62.n + ((ix c_.Held s62.t12).S.length : Int)), IntKind.wrap .i64 (s62.t12 + 1)⟩)
 else
  some (.inr s62.n)

theorem conn.Pending.body0.c_le (k : Nat) (c_ : api.Conn) (s62 : conn.Pending.S0) : OLe (conn.Pending.body0.c k c_ s62) (conn.Pending.body0 c_ s62) := by
 unfold conn.Pending.body0.c conn.Pending.body0
 repeat' with_reducible first | exact OLe.refl _ | apply OLe.bind | apply OLe.need | apply OLe.letO | apply OLe.onSum | apply OLe.ite | intro _

def conn.Pending.loop0.c (k : Nat) (c_ : api.Conn) (s62 : conn.Pending.S0) : Option Int := iterO (conn.Pending.body0.c k c_) k s62

theorem conn.Pending.loop0.c_le (k : Nat) (c_ : api.Conn) (s62 : conn.Pending.S0) : OLe (conn.Pending.loop0.c k c_ s62) (conn.Pending.loop0 c_ s62) := by
 unfold conn.Pending.loop0.c conn.Pending.loop0
 exact OLe.iter (fun s => conn.Pending.body0.c_le k c_ s) k _

def conn.Pending.c (k : Nat) (c_ : api.Conn) : Option Int :=
 (conn.Pending.loop0.c k c_ ⟨(c_.Out.length : Int), 0⟩).bind fun s51 =>
 some s51

theorem conn.Pending.c_le (k : Nat) (c_ : api.Conn) : OLe (conn.Pending.c k c_) (conn.Pending c_) := by
 unfold conn.Pending.c conn.Pending
 repeat' with_reducible first | exact OLe.refl _ | apply conn.Pending.loop0.c_le | apply OLe.bind | apply OLe.need | apply OLe.letO | apply OLe.onSum | apply OLe.ite | intro _

def conn.Say.c (k : Nat) (c_ : api.Conn) (s_ : List UInt8) (need_ : Int) (durable : Int) (t_ : api.Tenant) : Option api.Conn :=
 if c_.Closed = true then
  some c_
 else
  (slices.Clone_api_Held.c k c_.Held).bind fun r23 =>
  need ((r23.length + [({ Need := need_, S := s_ } : api.Held)].length) * 24 ≤ 140737488355328) <|
  (conn.Free.c k { c_ with Held := r23 ++ [({ Need := need_, S := s_ } : api.Held)] } durable).bind fun r27 =>
  (
   (conn.Pending.c k r27).bind fun r35 =>
   if t_.Out < r35 then
    some (([] : List api.Held), ([] : List UInt8), true)
   else
    some (r27.Held, r27.Out, r27.Closed)).bind fun s31 =>
  some { r27 with Held := s31.1, Out := s31.2.1, Closed := s31.2.2 }

theorem conn.Say.c_le (k : Nat) (c_ : api.Conn) (s_ : List UInt8) (need_ : Int) (durable : Int) (t_ : api.Tenant) : OLe (conn.Say.c k c_ s_ need_ durable t_) (conn.Say c_ s_ need_ durable t_) := by
 unfold conn.Say.c conn.Say
 repeat' with_reducible first | exact OLe.refl _ | apply slices.Clone_api_Held.c_le | apply conn.Free.c_le | apply conn.Pending.c_le | apply OLe.bind | apply OLe.need | apply OLe.letO | apply OLe.onSum | apply OLe.ite | intro _

def conn.Take.c (k : Nat) (c_ : api.Conn) (n_ : Int) : Option (api.Conn × (List UInt8)) :=
 need (InR 0 (if (c_.Out.length : Int) < (if n_ < 0 then 0 else n_) then (c_.Out.length : Int) else (if n_ < 0 then 0 else n_)) c_.Out.length) <|
 need (InR (if (c_.Out.length : Int) < (if n_ < 0 then 0 else n_) then (c_.Out.length : Int) else (if n_ < 0 then 0 else n_)) (c_.Out.length : Int) c_.Out.length) <|
 some ({ c_ with Out := sub c_.Out (if (c_.Out.length : Int) < (if n_ < 0 then 0 else n_) then (c_.Out.length : Int) else (if n_ < 0 then 0 else n_)) (c_.Out.length : Int), Taken := IntKind.wrap .i64 (c_.Taken + (if (c_.Out.length : Int) < (if n_ < 0 then 0 else n_) then (c_.Out.length : Int) else (if n_ < 0 then 0 else n_))) }, sub c_.Out 0 (if (c_.Out.length : Int) < (if n_ < 0 then 0 else n_) then (c_.Out.length : Int) else (if n_ < 0 then 0 else n_)))

theorem conn.Take.c_le (k : Nat) (c_ : api.Conn) (n_ : Int) : OLe (conn.Take.c k c_ n_) (conn.Take c_ n_) := by
 unfold conn.Take.c conn.Take
 repeat' with_reducible first | exact OLe.refl _ | apply OLe.bind | apply OLe.need | apply OLe.letO | apply OLe.onSum | apply OLe.ite | intro _

def conn.Read.body0.c (k : Nat) (r76 : api.Input × (List api.Request) × Int) (s105 : conn.Read.S0) : Option (conn.Read.S0 ⊕ Int) :=
 if s105.t36 < (r76.2.1.length : Int) then
  need (InB s105.t36 r76.2.1.length) <|
  some (.inl ⟨IntKind.wrap .i64 (s105.t36 + 1), IntKind.wrap .i64 (s105.c + (ix r76.2.1 s105.t36).Size)⟩)
 else
  some (.inr s105.c)

theorem conn.Read.body0.c_le (k : Nat) (r76 : api.Input × (List api.Request) × Int) (s105 : conn.Read.S0) : OLe (conn.Read.body0.c k r76 s105) (conn.Read.body0 r76 s105) := by
 unfold conn.Read.body0.c conn.Read.body0
 repeat' with_reducible first | exact OLe.refl _ | apply OLe.bind | apply OLe.need | apply OLe.letO | apply OLe.onSum | apply OLe.ite | intro _

def conn.Read.loop0.c (k : Nat) (r76 : api.Input × (List api.Request) × Int) (s105 : conn.Read.S0) : Option Int := iterO (conn.Read.body0.c k r76) k s105

theorem conn.Read.loop0.c_le (k : Nat) (r76 : api.Input × (List api.Request) × Int) (s105 : conn.Read.S0) : OLe (conn.Read.loop0.c k r76 s105) (conn.Read.loop0 r76 s105) := by
 unfold conn.Read.loop0.c conn.Read.loop0
 exact OLe.iter (fun s => conn.Read.body0.c_le k r76 s) k _

def conn.Read.c (k : Nat) (c_ : api.Conn) (s_ : List UInt8) (t_ : api.Tenant) : Option (api.Conn × (List api.Request) × (List UInt8)) :=
 letO (
  if c_.Shut = true then
   true
  else
   c_.Closed) fun s71 =>
 if s71 = true then
  some (c_, ([] : List api.Request), ([] : List UInt8))
 else
  (parse.Feed.c k c_.In s_ t_.Limits).bind fun r76 =>
  (conn.Read.loop0.c k r76 ⟨0, c_.Asked⟩).bind fun s94 =>
  letO (
   if r76.2.2 = 0 then
    letO (
     if t_.In < s94 then
      true
     else
      if (IntKind.wrap .i64 (t_.In - s94)) < r76.1.Size then
       true
      else
       decide ((IntKind.wrap .i64 ((IntKind.wrap .i64 (t_.In - s94)) - r76.1.Size)) < (r76.1.Rest.length : Int))) fun s126 =>
    if s126 = true then
     [69, 82, 82, 32, 105, 110, 112, 117, 116, 32, 98, 117, 102, 102, 101, 114, 32, 105, 115, 32, 102, 117, 108, 108]
    else
     ([] : List UInt8)
   else
    [69, 82, 82, 32, 80, 114, 111, 116, 111, 99, 111, 108, 32, 101, 114, 114, 111, 114]) fun s121 =>
  some ({ c_ with In := r76.1, Asked := s94, Shut := (!decide (s121 = ([] : List UInt8))) }, r76.2.1, s121)

theorem conn.Read.c_le (k : Nat) (c_ : api.Conn) (s_ : List UInt8) (t_ : api.Tenant) : OLe (conn.Read.c k c_ s_ t_) (conn.Read c_ s_ t_) := by
 unfold conn.Read.c conn.Read
 repeat' with_reducible first | exact OLe.refl _ | apply parse.Feed.c_le | apply conn.Read.loop0.c_le | apply OLe.bind | apply OLe.need | apply OLe.letO | apply OLe.onSum | apply OLe.ite | intro _

def mewslaw43.alive.c (k : Nat)  : Option Bool :=
 (conn.Open.c k 7).bind fun r31 =>
 (conn.Say.c k r31 [97] 2 0 ({ Name := ([] : List UInt8), Token := ([] : List UInt8), Memory := 0, Policy := 0, Conns := 0, In := 100, Out := 100, Burst := 0, Rate := 0, Disk := 0, Sync := 0, Limits := ({ Args := 9, Bulk := 9, Line := 9 } : api.Limits) } : api.Tenant)).bind fun r32 =>
 (conn.Say.c k r32 [98] 0 0 ({ Name := ([] : List UInt8), Token := ([] : List UInt8), Memory := 0, Policy := 0, Conns := 0, In := 100, Out := 100, Burst := 0, Rate := 0, Disk := 0, Sync := 0, Limits := ({ Args := 9, Bulk := 9, Line := 9 } : api.Limits) } : api.Tenant)).bind fun r33 =>
 (conn.Free.c k r33 2).bind fun r35 =>
 (conn.Take.c k r35 9).bind fun r37 =>
 (conn.Open.c k 7).bind fun r39 =>
 (conn.Read.c k r39 [71, 69, 84, 32, 97, 10, 120] ({ Name := ([] : List UInt8), Token := ([] : List UInt8), Memory := 0, Policy := 0, Conns := 0, In := 100, Out := 100, Burst := 0, Rate := 0, Disk := 0, Sync := 0, Limits := ({ Args := 9, Bulk := 9, Line := 9 } : api.Limits) } : api.Tenant)).bind fun r40 =>
 letO (
  if r33.Out = ([] : List UInt8) then
   if r37.2 = [97, 98] then
    if r37.1.Taken = 2 then
     if (r40.2.1.length : Int) = 1 then
      if r40.2.2 = ([] : List UInt8) then
       if r40.1.Asked = 6 then
        if r40.1.In.Rest = [120] then
         decide (r40.1.Tenant = (-1))
        else
         false
       else
        false
      else
       false
     else
      false
    else
     false
   else
    false
  else
   false) fun s49 =>
 some s49

theorem mewslaw43.alive.c_le (k : Nat)  : OLe (mewslaw43.alive.c k ) (mewslaw43.alive ) := by
 unfold mewslaw43.alive.c mewslaw43.alive
 repeat' with_reducible first | exact OLe.refl _ | apply conn.Open.c_le | apply conn.Say.c_le | apply conn.Free.c_le | apply conn.Take.c_le | apply conn.Read.c_le | apply OLe.bind | apply OLe.need | apply OLe.letO | apply OLe.onSum | apply OLe.ite | intro _

end Go.Pu
