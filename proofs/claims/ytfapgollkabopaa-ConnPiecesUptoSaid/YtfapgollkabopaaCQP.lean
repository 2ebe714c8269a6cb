/- Printed by lift.py: the functions over data. -/
import Derived.Test.YtfapgollkabopaaCQT
set_option maxRecDepth 100000
set_option maxHeartbeats 0
namespace Go.Pu
open Go.Lift

structure mewslaw05.far.S0 where
 n : Int
 t8 : Int

noncomputable def mewslaw05.far.body0 (l : List (List UInt8)) (s61 : mewslaw05.far.S0) : Option (mewslaw05.far.S0 ⊕ (Unit ⊕ Bool)) :=
 if s61.t8 < (l.length : Int) then
  need (InB s61.t8 l.length) <|
  if 5000 < (IntKind.wrap .i64 (s61.n + (if 10000 < ((ix l s61.t8).length : Int) then 10000 else ((ix l s61.t8).length : Int)))) then
   some (.inr (.inr true))
  else
   some (.inl ⟨IntKind.wrap .i64 (s61.n + (if 10000 < ((ix l s61.t8).length : Int) then 10000 else ((ix l s61.t8).length : Int))), IntKind.wrap .i64 (s61.t8 + 1)⟩)
 else
  some (.inr (.inl ()))

noncomputable def mewslaw05.far.loop0 (l : List (List UInt8)) (s61 : mewslaw05.far.S0) : Option (Unit ⊕ Bool) := whileO (mewslaw05.far.body0 l) s61

noncomputable def mewslaw05.far (l : List (List UInt8)) : Option Bool :=
 (mewslaw05.far.loop0 l ⟨0, 0⟩).bind fun s68 => onSum s68 (fun s50 =>
  some (decide (100 < (l.length : Int)))) fun s68x => some s68x

noncomputable def parse.Limits (l : api.Limits) : Option api.Limits :=
 some ({ Args := if 65536 < (if l.Args < 1 then 1 else l.Args) then 65536 else (if l.Args < 1 then 1 else l.Args), Bulk := if 1048576 < (if l.Bulk < 1 then 1 else l.Bulk) then 1048576 else (if l.Bulk < 1 then 1 else l.Bulk), Line := if 65536 < (if l.Line < 1 then 1 else l.Line) then 65536 else (if l.Line < 1 then 1 else l.Line) } : api.Limits)

noncomputable def slices.Clone_string (s : List (List UInt8)) : Option (List (List UInt8)) :=
 need ((([] : List (List UInt8)).length + s.length) * 16 ≤ 140737488355328) <|
 some s

noncomputable def parse.parser.dies (e : Int) (p_ : parse.parser) : Option (Bool × parse.parser) :=
 some (false, { p_ with in_ := ({ Rest := ([] : List UInt8), Args := ([] : List (List UInt8)), Left := 0, Size := 0, Body := false, Need := 0, Dead := e } : api.Input), s := ([] : List UInt8) })

noncomputable def stringslite.Clone (s : List UInt8) : Option (List UInt8) :=
 need (s.length ≤ 281474976710656) <|
 some s

noncomputable def strings.Clone (s_ : List UInt8) : Option (List UInt8) :=
 (stringslite.Clone s_).bind fun r2 =>
 some r2

noncomputable def parse.parser.past (n_ : Int) (p_ : parse.parser) : Option parse.parser :=
 need (InR n_ (p_.s.length : Int) p_.s.length) <|
 some { p_ with in_ := { p_.in_ with Size := IntKind.wrap .i64 (p_.in_.Size + n_) }, s := sub p_.s n_ (p_.s.length : Int) }

noncomputable def parse.parser.whole (args : List (List UInt8)) (p_ : parse.parser) : Option parse.parser :=
 (
  if 0 < (args.length : Int) then
   need ((p_.out.length + [({ Args := args, Size := p_.in_.Size } : api.Request)].length) * 32 ≤ 140737488355328) <|
   some (p_.out ++ [({ Args := args, Size := p_.in_.Size } : api.Request)])
  else
   some p_.out).bind fun s14 =>
 some { p_ with in_ := ({ Rest := ([] : List UInt8), Args := ([] : List (List UInt8)), Left := 0, Size := 0, Body := false, Need := 0, Dead := 0 } : api.Input), out := s14 }

structure parse.parser.body.S0 where
 t11 : Int

noncomputable def parse.parser.body.body0 (p_ : parse.parser) (s124 : parse.parser.body.S0) : Option (parse.parser.body.S0 ⊕ (Unit ⊕ (Bool × parse.parser))) :=
 if s124.t11 < 2 then
  if (IntKind.wrap .i64 ((p_.s.length : Int) - (if p_.in_.Need < 0 then 0 else p_.in_.Need))) ≤ s124.t11 then
   some (.inr (.inr (false, p_)))
  else
   need (InB (IntKind.wrap .i64 ((if p_.in_.Need < 0 then 0 else p_.in_.Need) + s124.t11)) p_.s.length) <|
   need (InB s124.t11 [13, 10].length) <|
   if (bix p_.s (IntKind.wrap .i64 ((if p_.in_.Need < 0 then 0 else p_.in_.Need) + s124.t11))) = (bix [13, 10] s124.t11) then
    some (.inl ⟨IntKind.wrap .i64 (s124.t11 + 1)⟩)
   else
    (parse.parser.dies 5 p_).bind fun r130 =>
    some (.inr (.inr (r130.1, r130.2)))
 else
  some (.inr (.inl ()))

noncomputable def parse.parser.body.loop0 (p_ : parse.parser) (s124 : parse.parser.body.S0) : Option (Unit ⊕ (Bool × parse.parser)) := whileO (parse.parser.body.body0 p_) s124

noncomputable def parse.parser.body (p_ : parse.parser) : Option (Bool × parse.parser) :=
 (parse.parser.body.loop0 p_ ⟨0⟩).bind fun s155 => onSum s155 (fun s105 =>
  need (InR 0 (if p_.in_.Need < 0 then 0 else p_.in_.Need) p_.s.length) <|
  (strings.Clone (sub p_.s 0 (if p_.in_.Need < 0 then 0 else p_.in_.Need))).bind fun r137 =>
  need ((p_.in_.Args.length + [r137].length) * 16 ≤ 140737488355328) <|
  (parse.parser.past (IntKind.wrap .i64 ((if p_.in_.Need < 0 then 0 else p_.in_.Need) + 2)) { p_ with in_ := ({ Rest := p_.in_.Rest, Args := p_.in_.Args ++ [r137], Left := IntKind.wrap .i64 (p_.in_.Left - 1), Size := p_.in_.Size, Body := false, Need := 0, Dead := p_.in_.Dead } : api.Input) }).bind fun r140 =>
  (
   if r140.in_.Left = 0 then
    (parse.parser.whole r140.in_.Args r140).bind fun r151 =>
    some (r151.in_.Rest, r151.in_.Args, r151.in_.Left, r151.in_.Size, r151.in_.Body, r151.in_.Need, r151.in_.Dead, r151.s, r151.l.Args, r151.l.Bulk, r151.l.Line, r151.out)
   else
    some (r140.in_.Rest, r140.in_.Args, r140.in_.Left, r140.in_.Size, r140.in_.Body, r140.in_.Need, r140.in_.Dead, r140.s, r140.l.Args, r140.l.Bulk, r140.l.Line, r140.out)).bind fun s146 =>
  some (true, ({ in_ := ({ Rest := s146.1, Args := s146.2.1, Left := s146.2.2.1, Size := s146.2.2.2.1, Body := s146.2.2.2.2.1, Need := s146.2.2.2.2.2.1, Dead := s146.2.2.2.2.2.2.1 } : api.Input), s := s146.2.2.2.2.2.2.2.1, l := ({ Args := s146.2.2.2.2.2.2.2.2.1, Bulk := s146.2.2.2.2.2.2.2.2.2.1, Line := s146.2.2.2.2.2.2.2.2.2.2.1 } : api.Limits), out := s146.2.2.2.2.2.2.2.2.2.2.2 } : parse.parser))) fun s155x => some s155x

structure parse.parser.header.S0 where
 n : Int
 i : Int

noncomputable def parse.parser.header.body0 (p_ : parse.parser) (most : Int) (over : Int) (s389 : parse.parser.header.S0) : Option (parse.parser.header.S0 ⊕ (Unit ⊕ (Int × Bool × parse.parser))) :=
 if s389.i < (p_.s.length : Int) then
  need (InB s389.i p_.s.length) <|
  letO (
   if (bix p_.s s389.i) = 13 then
    decide (1 < s389.i)
   else
    false) fun s395 =>
  if s395 = true then
   if (IntKind.wrap .i64 (s389.i + 1)) = (p_.s.length : Int) then
    some (.inr (.inr (0, false, p_)))
   else
    need (InB (IntKind.wrap .i64 (s389.i + 1)) p_.s.length) <|
    if (bix p_.s (IntKind.wrap .i64 (s389.i + 1))) = 10 then
     (parse.parser.past (IntKind.wrap .i64 (s389.i + 2)) p_).bind fun r403 =>
     some (.inr (.inr (s389.n, true, r403)))
    else
     (parse.parser.dies 5 p_).bind fun r400 =>
     some (.inr (.inr (0, r400.1, r400.2)))
  else
   letO (
    if (bix p_.s s389.i) < 48 then
     true
    else
     if 57 < (bix p_.s s389.i) then
      true
     else
      if 1 < s389.i then
       decide (s389.n = 0)
      else
       false) fun s411 =>
   if s411 = true then
    (parse.parser.dies 5 p_).bind fun r417 =>
    some (.inr (.inr (0, r417.1, r417.2)))
   else
    letO (IntKind.wrap .i64 ((IntKind.wrap .i64 (10 * s389.n)) + (IntKind.wrap .i64 (IntKind.wrap .u8 ((bix p_.s s389.i) - 48))))) fun x420 =>
    if most < x420 then
     (parse.parser.dies over p_).bind fun r421 =>
     some (.inr (.inr (0, r421.1, r421.2)))
    else
     some (.inl ⟨x420, IntKind.wrap .i64 (s389.i + 1)⟩)
 else
  some (.inr (.inl ()))

noncomputable def parse.parser.header.loop0 (p_ : parse.parser) (most : Int) (over : Int) (s389 : parse.parser.header.S0) : Option (Unit ⊕ (Int × Bool × parse.parser)) := whileO (parse.parser.header.body0 p_ most over) s389

noncomputable def parse.parser.header (mark : Int) (most : Int) (over : Int) (p_ : parse.parser) : Option (Int × Bool × parse.parser) :=
 if p_.s = ([] : List UInt8) then
  some (0, false, p_)
 else
  need (InB 0 p_.s.length) <|
  if (bix p_.s 0) = mark then
   (parse.parser.header.loop0 p_ most over ⟨0, 1⟩).bind fun s428 => onSum s428 (fun s320 =>
    some (0, false, p_)) fun s428x => some s428x
  else
   (parse.parser.dies 5 p_).bind fun r215 =>
   some (0, r215.1, r215.2)

noncomputable def stringslite.IndexByte (s_ : List UInt8) (c_ : Int) : Option Int :=
 some (Lib.indexByte s_ (u8 c_))

noncomputable def strings.IndexByte (s_ : List UInt8) (c_ : Int) : Option Int :=
 (stringslite.IndexByte s_ c_).bind fun r2 =>
 some r2

noncomputable def stringslite.HasSuffix (s_ : List UInt8) (suffix : List UInt8) : Option Bool :=
 (
  if (suffix.length : Int) ≤ (s_.length : Int) then
   need (InR (IntKind.wrap .i64 ((s_.length : Int) - (suffix.length : Int))) (s_.length : Int) s_.length) <|
   some (decide ((sub s_ (IntKind.wrap .i64 ((s_.length : Int) - (suffix.length : Int))) (s_.length : Int)) = suffix))
  else
   some false).bind fun s10 =>
 some s10

noncomputable def stringslite.TrimSuffix (s_ : List UInt8) (suffix : List UInt8) : Option (List UInt8) :=
 (stringslite.HasSuffix s_ suffix).bind fun r4 =>
 if r4 = true then
  need (InR 0 (IntKind.wrap .i64 ((s_.length : Int) - (suffix.length : Int))) s_.length) <|
  some (sub s_ 0 (IntKind.wrap .i64 ((s_.length : Int) - (suffix.length : Int))))
 else
  some s_

noncomputable def strings.TrimSuffix (s_ : List UInt8) (suffix : List UInt8) : Option (List UInt8) :=
 (stringslite.TrimSuffix s_ suffix).bind fun r2 =>
 some r2

noncomputable def line.blank (c_ : Int) : Option Bool :=
 letO (
  if c_ = 32 then
   true
  else
   decide (c_ = 9)) fun s7 =>
 some s7

noncomputable def line.quoted_1 (i : Int) (a1_ : List UInt8) : Option Bool :=
 (
  if i = (a1_.length : Int) then
   some true
  else
   need (InB i a1_.length) <|
   (line.blank (bix a1_ i)).bind fun r18 =>
   some r18).bind fun s13 =>
 some s13

noncomputable def line.hex (c_ : Int) : Option Int :=
 letO (
  if 48 ≤ c_ then
   decide (c_ ≤ 57)
  else
   false) fun s20 =>
 if s20 = true then
  some (IntKind.wrap .i64 (IntKind.wrap .u8 (c_ - 48)))
 else
  letO (
   if 97 ≤ c_ then
    decide (c_ ≤ 102)
   else
    false) fun s25 =>
  if s25 = true then
   some (IntKind.wrap .i64 ((IntKind.wrap .i64 (IntKind.wrap .u8 (c_ - 97))) + 10))
  else
   letO (
    if 65 ≤ c_ then
     decide (c_ ≤ 70)
    else
     false) fun s30 =>
   if s30 = true then
    some (IntKind.wrap .i64 ((IntKind.wrap .i64 (IntKind.wrap .u8 (c_ - 65))) + 10))
   else
    some (-1)

noncomputable def line.turn (s_ : List UInt8) (at_ : Int) : Option (Int × Int) :=
 (
  need (InB at_ s_.length) <|
  if (bix s_ at_) = 120 then
   if (IntKind.wrap .i64 (at_ + 2)) < (s_.length : Int) then
    need (InB (IntKind.wrap .i64 (at_ + 1)) s_.length) <|
    (line.hex (bix s_ (IntKind.wrap .i64 (at_ + 1)))).bind fun r47 =>
    if 0 ≤ r47 then
     need (InB (IntKind.wrap .i64 (at_ + 2)) s_.length) <|
     (line.hex (bix s_ (IntKind.wrap .i64 (at_ + 2)))).bind fun r50 =>
     some (decide (0 ≤ r50))
    else
     some false
   else
    some false
  else
   some false).bind fun s40 =>
 if s40 = true then
  need (InB (IntKind.wrap .i64 (at_ + 1)) s_.length) <|
  (line.hex (bix s_ (IntKind.wrap .i64 (at_ + 1)))).bind fun r52 =>
  need (InB (IntKind.wrap .i64 (at_ + 2)) s_.length) <|
  (line.hex (bix s_ (IntKind.wrap .i64 (at_ + 2)))).bind fun r54 =>
  some (IntKind.wrap .u8 (IntKind.wrap .i64 ((IntKind.wrap .i64 (16 * r52)) + r54)), IntKind.wrap .i64 (at_ + 3))
 else
  need (InB at_ s_.length) <|
  if (bix s_ at_) = 110 then
   some (10, IntKind.wrap .i64 (at_ + 1))
  else
   if (bix s_ at_) = 114 then
    some (13, IntKind.wrap .i64 (at_ + 1))
   else
    if (bix s_ at_) = 116 then
     some (9, IntKind.wrap .i64 (at_ + 1))
    else
     if (bix s_ at_) = 98 then
      some (8, IntKind.wrap .i64 (at_ + 1))
     else
      if (bix s_ at_) = 97 then
       some (7, IntKind.wrap .i64 (at_ + 1))
      else
       need (InB at_ s_.length) <|
       some (bix s_ at_, IntKind.wrap .i64 (at_ + 1))

structure line.quoted.S0 where
 at_ : Int
 b : List UInt8

noncomputable def line.quoted.body0 (s_ : List UInt8) (mark : Int) (s414 : line.quoted.S0) : Option (line.quoted.S0 ⊕ (Int ⊕ ((List UInt8) × Int × Bool))) :=
 if s414.at_ < (s_.length : Int) then
  need (InB s414.at_ s_.length) <|
  if (bix s_ s414.at_) = mark then
   (line.quoted_1 (IntKind.wrap .i64 (s414.at_ + 1)) s_).bind fun r420 =>
   some (.inr (.inr (s414.b, IntKind.wrap .i64 (s414.at_ + 1), r420)))
  else
   letO (
    if (bix s_ s414.at_) = 92 then
     if mark = 34 then
      decide ((IntKind.wrap .i64 (s414.at_ + 1)) < (s_.length : Int))
     else
      false
    else
     false) fun s423 =>
   if s423 = true then
    (line.turn s_ (IntKind.wrap .i64 (s414.at_ + 1))).bind fun r428 =>
    need (IsU8 r428.1) <|
    need ((s414.b.length + [u8 r428.1].length) * 1 ≤ 140737488355328) <|
    some (.inl ⟨r428.2, s414.b ++ [u8 r428.1]⟩)
   else
    (
     if (bix s_ s414.at_) = 92 then
      if mark = 39 then
       if (IntKind.wrap .i64 (s414.at_ + 1)) < (s_.length : Int) then
        need (InB (IntKind.wrap .i64 (s414.at_ + 1)) s_.length) <|
        some (decide ((bix s_ (IntKind.wrap .i64 (s414.at_ + 1))) = mark))
       else
        some false
      else
       some false
     else
      some false).bind fun s436 =>
    if s436 = true then
     need (IsU8 mark) <|
     need ((s414.b.length + [u8 mark].length) * 1 ≤ 140737488355328) <|
     some (.inl ⟨IntKind.wrap .i64 (s414.at_ + 2), s414.b ++ [u8 mark]⟩)
    else
     need (IsU8 (bix s_ s414.at_)) <|
     need ((s414.b.length + [u8 (bix s_ s414.at_)].length) * 1 ≤ 140737488355328) <|
     some (.inl ⟨IntKind.wrap .i64 (s414.at_ + 1), s414.b ++ [u8 (bix s_ s414.at_)]⟩)
 else
  some (.inr (.inl s414.at_))

noncomputable def line.quoted.loop0 (s_ : List UInt8) (mark : Int) (s414 : line.quoted.S0) : Option (Int ⊕ ((List UInt8) × Int × Bool)) := whileO (line.quoted.body0 s_ mark) s414

noncomputable def line.quoted (s_ : List UInt8) (at_ : Int) (mark : Int) : Option ((List UInt8) × Int × Bool) :=
 (line.quoted.loop0 s_ mark ⟨at_, ([] : List UInt8)⟩).bind fun s455 => onSum s455 (fun s340 =>
  some (([] : List UInt8), s340, false)) fun s455x => some s455x

structure line.Split.S0 where
 out : List (List UInt8)
 at_ : Int

structure line.Split.S2 where
 at_ : Int

noncomputable def line.Split.body2 (s_ : List UInt8) (s1484 : line.Split.S2) : Option (line.Split.S2 ⊕ Int) :=
 (
  if s1484.at_ < (s_.length : Int) then
   need (InB s1484.at_ s_.length) <|
   (line.blank (bix s_ s1484.at_)).bind fun r1496 =>
   some r1496
  else
   some false).bind fun s1491 =>
 if s1491 = true then
  some (.inl ⟨IntKind.wrap .i64 (s1484.at_ + 1)⟩)
 else
  some (.inr s1484.at_)

noncomputable def line.Split.loop2 (s_ : List UInt8) (s1484 : line.Split.S2) : Option Int := whileO (line.Split.body2 s_) s1484

structure line.Split.S4 where
 at_ : Int
 b : List UInt8

noncomputable def line.Split.body4 (s_ : List UInt8) (s1664 : line.Split.S4) : Option (line.Split.S4 ⊕ ((Int × (List UInt8)) ⊕ (line.Split.S0 ⊕ ((List (List UInt8)) × Bool)))) :=
 (
  if s1664.at_ < (s_.length : Int) then
   need (InB s1664.at_ s_.length) <|
   (line.blank (bix s_ s1664.at_)).bind fun r1677 =>
   some (!r1677)
  else
   some false).bind fun s1672 =>
 if s1672 = true then
  (
   need (InB s1664.at_ s_.length) <|
   if (bix s_ s1664.at_) = 34 then
    some false
   else
    need (InB s1664.at_ s_.length) <|
    some (!decide ((bix s_ s1664.at_) = 39))).bind fun s1681 =>
  if s1681 = true then
   need (InB s1664.at_ s_.length) <|
   need (IsU8 (bix s_ s1664.at_)) <|
   need ((s1664.b.length + [u8 (bix s_ s1664.at_)].length) * 1 ≤ 140737488355328) <|
   some (.inl ⟨IntKind.wrap .i64 (s1664.at_ + 1), s1664.b ++ [u8 (bix s_ s1664.at_)]⟩)
  else
   need (InB s1664.at_ s_.length) <|
   (line.quoted s_ (IntKind.wrap .i64 (s1664.at_ + 1)) (bix s_ s1664.at_)).bind fun r1692 =>
   if (!r1692.2.2) = true then
    some (.inr (.inr (.inr (([] : List (List UInt8)), false))))
   else
    need ((s1664.b.length + r1692.1.length) * 1 ≤ 140737488355328) <|
    some (.inl ⟨r1692.2.1, s1664.b ++ r1692.1⟩)
 else
  some (.inr (.inl (s1664.at_, s1664.b)))

noncomputable def line.Split.loop4 (s_ : List UInt8) (s1664 : line.Split.S4) : Option ((Int × (List UInt8)) ⊕ (line.Split.S0 ⊕ ((List (List UInt8)) × Bool))) := whileO (line.Split.body4 s_) s1664

noncomputable def line.Split.body0 (s_ : List UInt8) (s1418 : line.Split.S0) : Option (line.Split.S0 ⊕ ((List (List UInt8)) × Bool)) :=
 (line.Split.loop2 s_ ⟨s1418.at_⟩).bind fun s1459 =>
 if s1459 = (s_.length : Int) then
  some (.inr (s1418.out, true))
 else
  (line.Split.loop4 s_ ⟨s1459, ([] : List UInt8)⟩).bind fun s1703 => onSum s1703 (fun s1597 =>
   need ((s1418.out.length + [s1597.2].length) * 16 ≤ 140737488355328) <|
   some (.inl ⟨s1418.out ++ [s1597.2], s1597.1⟩)) fun s1703x => some s1703x

noncomputable def line.Split.loop0 (s_ : List UInt8) (s1418 : line.Split.S0) : Option ((List (List UInt8)) × Bool) := whileO (line.Split.body0 s_) s1418

noncomputable def line.Split (s_ : List UInt8) : Option ((List (List UInt8)) × Bool) :=
 line.Split.loop0 s_ ⟨([] : List (List UInt8)), 0⟩

noncomputable def parse.parser.line_1 (s_ : List UInt8) (b1_ : parse.parser) : Option Bool :=
 some (decide (b1_.l.Bulk < (s_.length : Int)))

structure slices.IndexFunc_string_parse_parser_line_1.S0 where
 t8 : Int

noncomputable def slices.IndexFunc_string_parse_parser_line_1.body0 (s_ : List (List UInt8)) (b1_ : parse.parser) (s112 : slices.IndexFunc_string_parse_parser_line_1.S0) : Option (slices.IndexFunc_string_parse_parser_line_1.S0 ⊕ (Unit ⊕ Int)) :=
 if s112.t8 < (s_.length : Int) then
  need (InB s112.t8 s_.length) <|
  (parse.parser.line_1 (ix s_ s112.t8) b1_).bind fun r119 =>
  if r119 = true then
   some (.inr (.inr s112.t8))
  else
   some (.inl ⟨IntKind.wrap .i64 (s112.t8 + 1)⟩)
 else
  some (.inr (.inl ()))

noncomputable def slices.IndexFunc_string_parse_parser_line_1.loop0 (s_ : List (List UInt8)) (b1_ : parse.parser) (s112 : slices.IndexFunc_string_parse_parser_line_1.S0) : Option (Unit ⊕ Int) := whileO (slices.IndexFunc_string_parse_parser_line_1.body0 s_ b1_) s112

noncomputable def slices.IndexFunc_string_parse_parser_line_1 (s_ : List (List UInt8)) (b1_ : parse.parser) : Option Int :=
 (slices.IndexFunc_string_parse_parser_line_1.loop0 s_ b1_ ⟨0⟩).bind fun s124 => onSum s124 (fun s91 =>
  some (-1)) fun s124x => some s124x

noncomputable def slices.ContainsFunc_string_parse_parser_line_1 (s_ : List (List UInt8)) (b1_ : parse.parser) : Option Bool :=
 (slices.IndexFunc_string_parse_parser_line_1 s_ b1_).bind fun r4 =>
 some (decide (0 ≤ r4))

noncomputable def parse.parser.line (p_ : parse.parser) : Option (Bool × parse.parser) :=
 (strings.IndexByte p_.s 10).bind fun r36 =>
 letO (
  if r36 < 0 then
   if p_.l.Line < (p_.s.length : Int) then
    true
   else
    decide (p_.l.Line < r36)
  else
   decide (p_.l.Line < r36)) fun s39 =>
 if s39 = true then
  (parse.parser.dies 6 p_).bind fun r44 =>
  some (r44.1, r44.2)
 else
  if r36 < 0 then
   some (false, p_)
  else
   need (InR 0 r36 p_.s.length) <|
   (strings.TrimSuffix (sub p_.s 0 r36) [13]).bind fun r48 =>
   (line.Split r48).bind fun r49 =>
   if (!r49.2) = true then
    (parse.parser.dies 16 p_).bind fun r51 =>
    some (r51.1, r51.2)
   else
    if p_.l.Args < (r49.1.length : Int) then
     (parse.parser.dies 7 p_).bind fun r54 =>
     some (r54.1, r54.2)
    else
     (slices.ContainsFunc_string_parse_parser_line_1 r49.1 p_).bind fun r57 =>
     if r57 = true then
      (parse.parser.dies 6 p_).bind fun r60 =>
      some (r60.1, r60.2)
     else
      (parse.parser.past (IntKind.wrap .i64 (r36 + 1)) p_).bind fun r63 =>
      (parse.parser.whole r49.1 r63).bind fun r66 =>
      some (true, r66)

noncomputable def parse.parser.step (p_ : parse.parser) : Option (Bool × parse.parser) :=
 if p_.in_.Body = true then
  (parse.parser.body p_).bind fun r50 =>
  some (r50.1, r50.2)
 else
  if 0 < p_.in_.Left then
   (parse.parser.header 36 p_.l.Bulk 6 p_).bind fun r53 =>
   letO (
    if r53.2.1 = true then
     (true, r53.1)
    else
     (r53.2.2.in_.Body, r53.2.2.in_.Need)) fun s57 =>
   some (r53.2.1, { r53.2.2 with in_ := { r53.2.2.in_ with Body := s57.1, Need := s57.2 } })
  else
   if p_.s = ([] : List UInt8) then
    some (false, p_)
   else
    need (InB 0 p_.s.length) <|
    if (bix p_.s 0) = 42 then
     (parse.parser.header 42 p_.l.Args 7 p_).bind fun r65 =>
     letO (
      if r65.2.1 = true then
       r65.1
      else
       r65.2.2.in_.Left) fun s69 =>
     (
      letO (
       if r65.2.1 = true then
        decide (r65.1 = 0)
       else
        false) fun s87 =>
      if s87 = true then
       (parse.parser.whole ([] : List (List UInt8)) { r65.2.2 with in_ := { r65.2.2.in_ with Left := s69 } }).bind fun r91 =>
       some (r91.in_.Rest, r91.in_.Args, r91.in_.Left, r91.in_.Size, r91.in_.Body, r91.in_.Need, r91.in_.Dead, r91.s, r91.l.Args, r91.l.Bulk, r91.l.Line, r91.out)
      else
       some (r65.2.2.in_.Rest, r65.2.2.in_.Args, s69, r65.2.2.in_.Size, r65.2.2.in_.Body, r65.2.2.in_.Need, r65.2.2.in_.Dead, r65.2.2.s, r65.2.2.l.Args, r65.2.2.l.Bulk, r65.2.2.l.Line, r65.2.2.out)).bind fun s81 =>
     some (r65.2.1, ({ in_ := ({ Rest := s81.1, Args := s81.2.1, Left := s81.2.2.1, Size := s81.2.2.2.1, Body := s81.2.2.2.2.1, Need := s81.2.2.2.2.2.1, Dead := s81.2.2.2.2.2.2.1 } : api.Input), s := s81.2.2.2.2.2.2.2.1, l := ({ Args := s81.2.2.2.2.2.2.2.2.1, Bulk := s81.2.2.2.2.2.2.2.2.2.1, Line := s81.2.2.2.2.2.2.2.2.2.2.1 } : api.Limits), out := s81.2.2.2.2.2.2.2.2.2.2.2 } : parse.parser))
    else
     (parse.parser.line p_).bind fun r62 =>
     some (r62.1, r62.2)

structure parse.Feed.S0 where
 c : List UInt8
 c2 : List (List UInt8)
 c3 : Int
 c4 : Int
 c5 : Bool
 c6 : Int
 c7 : Int
 c8 : List UInt8
 c9 : Int
 c10 : Int
 c11 : Int
 c12 : List api.Request

noncomputable def parse.Feed.body0 (in_ : api.Input) (l : api.Limits) (s115 : parse.Feed.S0) : Option (parse.Feed.S0 ⊕ ((List UInt8) × (List (List UInt8)) × Int × Int × Bool × Int × Int × (List UInt8) × Int × Int × Int × (List api.Request))) :=
 (parse.parser.step ({ in_ := ({ Rest := s115.c, Args := s115.c2, Left := s115.c3, Size := s115.c4, Body := s115.c5, Need := s115.c6, Dead := s115.c7 } : api.Input), s := s115.c8, l := ({ Args := s115.c9, Bulk := s115.c10, Line := s115.c11 } : api.Limits), out := s115.c12 } : parse.parser)).bind fun r121 =>
 if r121.1 = true then
  some (.inl ⟨r121.2.in_.Rest, r121.2.in_.Args, r121.2.in_.Left, r121.2.in_.Size, r121.2.in_.Body, r121.2.in_.Need, r121.2.in_.Dead, r121.2.s, r121.2.l.Args, r121.2.l.Bulk, r121.2.l.Line, r121.2.out⟩)
 else
  some (.inr (r121.2.in_.Rest, r121.2.in_.Args, r121.2.in_.Left, r121.2.in_.Size, r121.2.in_.Body, r121.2.in_.Need, r121.2.in_.Dead, r121.2.s, r121.2.l.Args, r121.2.l.Bulk, r121.2.l.Line, r121.2.out))

noncomputable def parse.Feed.loop0 (in_ : api.Input) (l : api.Limits) (s115 : parse.Feed.S0) : Option ((List UInt8) × (List (List UInt8)) × Int × Int × Bool × Int × Int × (List UInt8) × Int × Int × Int × (List api.Request)) := whileO (parse.Feed.body0 in_ l) s115

noncomputable def parse.Feed (in_ : api.Input) (b : List UInt8) (l : api.Limits) : Option (api.Input × (List api.Request) × Int) :=
 if in_.Dead = 0 then
  need (in_.Rest.length + b.length ≤ 9223372036854775807) <|
  (parse.Limits l).bind fun r69 =>
  (slices.Clone_string in_.Args).bind fun r71 =>
  (parse.Feed.loop0 in_ l ⟨([] : List UInt8), r71, in_.Left, in_.Size, in_.Body, in_.Need, in_.Dead, in_.Rest ++ b, r69.Args, r69.Bulk, r69.Line, ([] : List api.Request)⟩).bind fun s97 =>
  (strings.Clone s97.2.2.2.2.2.2.2.1).bind fun r126 =>
  some (({ Rest := r126, Args := s97.2.1, Left := s97.2.2.1, Size := s97.2.2.2.1, Body := s97.2.2.2.2.1, Need := s97.2.2.2.2.2.1, Dead := s97.2.2.2.2.2.2.1 } : api.Input), s97.2.2.2.2.2.2.2.2.2.2.2, s97.2.2.2.2.2.2.1)
 else
  some (({ Rest := ([] : List UInt8), Args := ([] : List (List UInt8)), Left := 0, Size := 0, Body := false, Need := 0, Dead := in_.Dead } : api.Input), ([] : List api.Request), in_.Dead)

structure mewsref05.texts.S0 where
 i : Int

noncomputable def mewsref05.texts.body0 (a : List (List UInt8)) (b : List (List UInt8)) (s73 : mewsref05.texts.S0) : Option (mewsref05.texts.S0 ⊕ (Unit ⊕ Bool)) :=
 if s73.i < (a.length : Int) then
  need (InB s73.i a.length) <|
  need (InB s73.i b.length) <|
  if (ix a s73.i) = (ix b s73.i) then
   some (.inl ⟨IntKind.wrap .i64 (s73.i + 1)⟩)
  else
   some (.inr (.inr false))
 else
  some (.inr (.inl ()))

noncomputable def mewsref05.texts.loop0 (a : List (List UInt8)) (b : List (List UInt8)) (s73 : mewsref05.texts.S0) : Option (Unit ⊕ Bool) := whileO (mewsref05.texts.body0 a b) s73

noncomputable def mewsref05.texts (a : List (List UInt8)) (b : List (List UInt8)) : Option Bool :=
 if (a.length : Int) = (b.length : Int) then
  (mewsref05.texts.loop0 a b ⟨0⟩).bind fun s81 => onSum s81 (fun s60 =>
   some true) fun s81x => some s81x
 else
  some false

structure mewsref05.Same.S0 where
 i : Int

noncomputable def mewsref05.Same.body0 (a : List api.Request) (b : List api.Request) (s216 : mewsref05.Same.S0) : Option (mewsref05.Same.S0 ⊕ (Unit ⊕ Bool)) :=
 if s216.i < (a.length : Int) then
  (
   need (InB s216.i a.length) <|
   need (InB s216.i b.length) <|
   if (ix a s216.i).Size = (ix b s216.i).Size then
    need (InB s216.i a.length) <|
    need (InB s216.i b.length) <|
    (mewsref05.texts (ix a s216.i).Args (ix b s216.i).Args).bind fun r234 =>
    some (!r234)
   else
    some true).bind fun s226 =>
  if s226 = true then
   some (.inr (.inr false))
  else
   some (.inl ⟨IntKind.wrap .i64 (s216.i + 1)⟩)
 else
  some (.inr (.inl ()))

noncomputable def mewsref05.Same.loop0 (a : List api.Request) (b : List api.Request) (s216 : mewsref05.Same.S0) : Option (Unit ⊕ Bool) := whileO (mewsref05.Same.body0 a b) s216

noncomputable def mewsref05.Same (a : List api.Request) (b : List api.Request) : Option Bool :=
 if (a.length : Int) = (b.length : Int) then
  (mewsref05.Same.loop0 a b ⟨0⟩).bind fun s237 => onSum s237 (fun s177 =>
   some true) fun s237x => some s237x
 else
  some false

noncomputable def parse.Idle (in_ : api.Input) : Option Bool :=
 letO (
  if in_.Rest = ([] : List UInt8) then
   if in_.Size = 0 then
    decide (in_.Dead = 0)
   else
    false
  else
   false) fun s12 =>
 some s12

noncomputable def mewslaw05.alive  : Option Bool :=
 (parse.Feed ({ Rest := ([] : List UInt8), Args := ([] : List (List UInt8)), Left := 0, Size := 0, Body := false, Need := 0, Dead := 0 } : api.Input) [42, 49, 13, 10, 36, 52, 13, 10, 80, 73] ({ Args := 9, Bulk := 9, Line := 9 } : api.Limits)).bind fun r23 =>
 (parse.Feed r23.1 [78, 71, 13, 10, 71, 69, 84, 32, 97, 10] ({ Args := 9, Bulk := 9, Line := 9 } : api.Limits)).bind fun r26 =>
 (
  if (r23.2.1.length : Int) = 0 then
   if r23.2.2 = 0 then
    if r26.2.2 = 0 then
     (mewsref05.Same r26.2.1 [({ Args := [[80, 73, 78, 71]], Size := 14 } : api.Request), ({ Args := [[71, 69, 84], [97]], Size := 6 } : api.Request)]).bind fun r40 =>
     if r40 = true then
      (parse.Idle r26.1).bind fun r42 =>
      some r42
     else
      some false
    else
     some false
   else
    some false
  else
   some false).bind fun s34 =>
 some s34

noncomputable def mewsref05.between (n_ : Int) (most : Int) : Option Int :=
 if n_ < 1 then
  some 1
 else
  if most < n_ then
   some most
  else
   some n_

noncomputable def mewsref05.Limits (l : api.Limits) : Option api.Limits :=
 (mewsref05.between l.Args 65536).bind fun r8 =>
 (mewsref05.between l.Bulk 1048576).bind fun r9 =>
 (mewsref05.between l.Line 65536).bind fun r10 =>
 some ({ Args := r8, Bulk := r9, Line := r10 } : api.Limits)

noncomputable def mewsref01.digits.rec : Nat → Int → Option (List UInt8)
 | 0, _ => none
 | kk + 1, n_ =>
  if (-10) < n_ then
   need (InR (IntKind.wrap .i64 (0 - (n_.tmod 10))) (IntKind.wrap .i64 ((IntKind.wrap .i64 (0 - (n_.tmod 10))) + 1)) [48, 49, 50, 51, 52, 53, 54, 55, 56, 57].length) <|
   letO (sub [48, 49, 50, 51, 52, 53, 54, 55, 56, 57] (IntKind.wrap .i64 (0 - (n_.tmod 10))) (IntKind.wrap .i64 ((IntKind.wrap .i64 (0 - (n_.tmod 10))) + 1))) fun x9 =>
   some x9
  else
   (mewsref01.digits.rec kk (IntKind.wrap .i64 (n_.tdiv 10))).bind fun r10 =>
   need (InR (IntKind.wrap .i64 (0 - (n_.tmod 10))) (IntKind.wrap .i64 ((IntKind.wrap .i64 (0 - (n_.tmod 10))) + 1)) [48, 49, 50, 51, 52, 53, 54, 55, 56, 57].length) <|
   letO (sub [48, 49, 50, 51, 52, 53, 54, 55, 56, 57] (IntKind.wrap .i64 (0 - (n_.tmod 10))) (IntKind.wrap .i64 ((IntKind.wrap .i64 (0 - (n_.tmod 10))) + 1))) fun x12 =>
   need (r10.length + x12.length ≤ 9223372036854775807) <|
   some (r10 ++ x12)

noncomputable def mewsref01.digits (n_ : Int) : Option (List UInt8) := fixO fun kk => mewsref01.digits.rec kk n_

noncomputable def mewsref01.Text (n_ : Int) : Option (List UInt8) :=
 if n_ < 0 then
  (mewsref01.digits n_).bind fun r5 =>
  need ([45].length + r5.length ≤ 9223372036854775807) <|
  some ([45] ++ r5)
 else
  (mewsref01.digits (IntKind.wrap .i64 (0 - n_))).bind fun r7 =>
  some r7

structure mewsref01.Parse.S0 where
 n : Int
 i : Int

noncomputable def mewsref01.Parse.body0 (s_ : List UInt8) (s309 : Bool) (s550 : mewsref01.Parse.S0) : Option (mewsref01.Parse.S0 ⊕ (Int ⊕ (Int × Bool))) :=
 if s550.i < (s_.length : Int) then
  (
   letO (
    if s550.i = 0 then
     s309
    else
     false) fun s578 =>
   if s578 = true then
    some (.inl s550.n)
   else
    (
     need (InB s550.i s_.length) <|
     if (bix s_ s550.i) < 48 then
      some true
     else
      need (InB s550.i s_.length) <|
      some (decide (57 < (bix s_ s550.i)))).bind fun s585 =>
    if s585 = true then
     some (.inr (.inr (.inr (0, false))))
    else
     need (InB s550.i s_.length) <|
     letO (IntKind.wrap .i64 ((IntKind.wrap .i64 ((-9223372036854775808) + (IntKind.wrap .i64 (IntKind.wrap .u8 ((bix s_ s550.i) - 48))))).tdiv 10)) fun x592 =>
     if s550.n < x592 then
      some (.inr (.inr (.inr (0, false))))
     else
      letO (IntKind.wrap .i64 ((IntKind.wrap .i64 (s550.n * 10)) - (IntKind.wrap .i64 (IntKind.wrap .u8 ((bix s_ s550.i) - 48))))) fun x593 =>
      some (.inl x593)).bind fun s597 => onSum s597 (fun s574 =>
   some (.inl ⟨s574, IntKind.wrap .i64 (s550.i + 1)⟩)) fun s597x => some s597x
 else
  some (.inr (.inl s550.n))

noncomputable def mewsref01.Parse.loop0 (s_ : List UInt8) (s309 : Bool) (s550 : mewsref01.Parse.S0) : Option (Int ⊕ (Int × Bool)) := whileO (mewsref01.Parse.body0 s_ s309) s550

noncomputable def mewsref01.Parse (s_ : List UInt8) : Option (Int × Bool) :=
 (
  if 0 < (s_.length : Int) then
   need (InB 0 s_.length) <|
   some (decide ((bix s_ 0) = 45))
  else
   some false).bind fun s309 =>
 (mewsref01.Parse.loop0 s_ s309 ⟨0, 0⟩).bind fun s612 => onSum s612 (fun s455 =>
  letO (
   if (!s309) = true then
    decide (s455 = (-9223372036854775808))
   else
    false) fun s600 =>
  if s600 = true then
   some (0, false)
  else
   letO (
    if (!s309) = true then
     IntKind.wrap .i64 (0 - s455)
    else
     s455) fun s605 =>
   (mewsref01.Text s605).bind fun r609 =>
   if r609 = s_ then
    some (s605, true)
   else
    some (0, false)) fun s612x => some s612x

structure mewsref05.first.S0 where
 digits : Int

noncomputable def mewsref05.first.body0 (s_ : List UInt8) (most : Int) (over : Int) (s355 : mewsref05.first.S0) : Option (mewsref05.first.S0 ⊕ (Int ⊕ (Int × Int × Int))) :=
 (
  if s355.digits < (s_.length : Int) then
   need (InB s355.digits s_.length) <|
   if 48 ≤ (bix s_ s355.digits) then
    need (InB s355.digits s_.length) <|
    some (decide ((bix s_ s355.digits) ≤ 57))
   else
    some false
  else
   some false).bind fun s363 =>
 if s363 = true then
  need (InR 1 (IntKind.wrap .i64 (s355.digits + 1)) s_.length) <|
  (mewsref01.Parse (sub s_ 1 (IntKind.wrap .i64 (s355.digits + 1)))).bind fun r371 =>
  (
   if (!r371.2) = true then
    need (InB 1 s_.length) <|
    some (decide ((bix s_ 1) = 48))
   else
    some false).bind fun s374 =>
  if s374 = true then
   some (.inr (.inr (0, 0, 5)))
  else
   letO (
    if (!r371.2) = true then
     true
    else
     decide (most < r371.1)) fun s380 =>
   if s380 = true then
    some (.inr (.inr (0, 0, over)))
   else
    some (.inl ⟨IntKind.wrap .i64 (s355.digits + 1)⟩)
 else
  some (.inr (.inl s355.digits))

noncomputable def mewsref05.first.loop0 (s_ : List UInt8) (most : Int) (over : Int) (s355 : mewsref05.first.S0) : Option (Int ⊕ (Int × Int × Int)) := whileO (mewsref05.first.body0 s_ most over) s355

noncomputable def mewsref05.first (s_ : List UInt8) (mark : Int) (most : Int) (over : Int) : Option (Int × Int × Int) :=
 if s_ = ([] : List UInt8) then
  some (0, 0, (-1))
 else
  need (InB 0 s_.length) <|
  if (bix s_ 0) = mark then
   (mewsref05.first.loop0 s_ most over ⟨1⟩).bind fun s402 => onSum s402 (fun s294 =>
    need (InR 1 s294 s_.length) <|
    (mewsref01.Parse (sub s_ 1 s294)).bind fun r388 =>
    need (InR s294 (s_.length : Int) s_.length) <|
    if (sub s_ s294 (s_.length : Int)) = ([] : List UInt8) then
     some (0, 0, (-1))
    else
     (
      if s294 = 1 then
       some true
      else
       need (InB 0 (sub s_ s294 (s_.length : Int)).length) <|
       some (!decide ((bix (sub s_ s294 (s_.length : Int)) 0) = 13))).bind fun s392 =>
     if s392 = true then
      some (0, 0, 5)
     else
      if ((sub s_ s294 (s_.length : Int)).length : Int) = 1 then
       some (0, 0, (-1))
      else
       need (InB 1 (sub s_ s294 (s_.length : Int)).length) <|
       if (bix (sub s_ s294 (s_.length : Int)) 1) = 10 then
        some (r388.1, IntKind.wrap .i64 (s294 + 2), 0)
       else
        some (0, 0, 5)) fun s402x => some s402x
  else
   some (0, 0, 5)

structure mewsref05.ends.S0 where
 i : Int

noncomputable def mewsref05.ends.body0 (s_ : List UInt8) (s83 : mewsref05.ends.S0) : Option (mewsref05.ends.S0 ⊕ (Unit ⊕ Int)) :=
 if s83.i < 2 then
  if (s_.length : Int) ≤ s83.i then
   some (.inr (.inr (-1)))
  else
   need (InB s83.i s_.length) <|
   need (InB s83.i [13, 10].length) <|
   if (bix s_ s83.i) = (bix [13, 10] s83.i) then
    some (.inl ⟨IntKind.wrap .i64 (s83.i + 1)⟩)
   else
    some (.inr (.inr 5))
 else
  some (.inr (.inl ()))

noncomputable def mewsref05.ends.loop0 (s_ : List UInt8) (s83 : mewsref05.ends.S0) : Option (Unit ⊕ Int) := whileO (mewsref05.ends.body0 s_) s83

noncomputable def mewsref05.ends (s_ : List UInt8) : Option Int :=
 (mewsref05.ends.loop0 s_ ⟨0⟩).bind fun s92 => onSum s92 (fun s68 =>
  some 0) fun s92x => some s92x

structure mewsref05.many.S0 where
 c : List (List UInt8)
 c2 : Int
 c3 : Int

noncomputable def mewsref05.many.body0 (s_ : List UInt8) (l : api.Limits) (s291 : mewsref05.many.S0) : Option (mewsref05.many.S0 ⊕ (((List (List UInt8)) × Int × Int) ⊕ (api.Input × Int))) :=
 if 0 < s291.c2 then
  need (InR s291.c3 (s_.length : Int) s_.length) <|
  (mewsref05.first (sub s_ s291.c3 (s_.length : Int)) 36 l.Bulk 6).bind fun r297 =>
  if r297.2.2 = 0 then
   need (InR (IntKind.wrap .i64 (s291.c3 + r297.2.1)) (s_.length : Int) s_.length) <|
   (
    if r297.1 ≤ ((sub s_ (IntKind.wrap .i64 (s291.c3 + r297.2.1)) (s_.length : Int)).length : Int) then
     need (InR r297.1 ((sub s_ (IntKind.wrap .i64 (s291.c3 + r297.2.1)) (s_.length : Int)).length : Int) (sub s_ (IntKind.wrap .i64 (s291.c3 + r297.2.1)) (s_.length : Int)).length) <|
     letO (sub (sub s_ (IntKind.wrap .i64 (s291.c3 + r297.2.1)) (s_.length : Int)) r297.1 ((sub s_ (IntKind.wrap .i64 (s291.c3 + r297.2.1)) (s_.length : Int)).length : Int)) fun x308 =>
     (mewsref05.ends x308).bind fun r309 =>
     some r309
    else
     some (-1)).bind fun s304 =>
   if s304 = 0 then
    need (InR 0 r297.1 (sub s_ (IntKind.wrap .i64 (s291.c3 + r297.2.1)) (s_.length : Int)).length) <|
    letO (sub (sub s_ (IntKind.wrap .i64 (s291.c3 + r297.2.1)) (s_.length : Int)) 0 r297.1) fun x312 =>
    need ((s291.c.length + [x312].length) * 16 ≤ 140737488355328) <|
    some (.inl ⟨s291.c ++ [x312], IntKind.wrap .i64 (s291.c2 - 1), IntKind.wrap .i64 ((IntKind.wrap .i64 (s291.c3 + r297.2.1)) + (IntKind.wrap .i64 (r297.1 + 2)))⟩)
   else
    some (.inr (.inr (({ Rest := sub s_ (IntKind.wrap .i64 (s291.c3 + r297.2.1)) (s_.length : Int), Args := s291.c, Left := s291.c2, Size := IntKind.wrap .i64 (s291.c3 + r297.2.1), Body := true, Need := r297.1, Dead := 0 } : api.Input), s304)))
  else
   need (InR s291.c3 (s_.length : Int) s_.length) <|
   some (.inr (.inr (({ Rest := sub s_ s291.c3 (s_.length : Int), Args := s291.c, Left := s291.c2, Size := s291.c3, Body := false, Need := 0, Dead := 0 } : api.Input), r297.2.2)))
 else
  some (.inr (.inl (s291.c, s291.c2, s291.c3)))

noncomputable def mewsref05.many.loop0 (s_ : List UInt8) (l : api.Limits) (s291 : mewsref05.many.S0) : Option (((List (List UInt8)) × Int × Int) ⊕ (api.Input × Int)) := whileO (mewsref05.many.body0 s_ l) s291

noncomputable def mewsref05.many (s_ : List UInt8) (l : api.Limits) : Option (api.Input × Int) :=
 (mewsref05.first s_ 42 l.Args 7).bind fun r163 =>
 if r163.2.2 = 0 then
  (mewsref05.many.loop0 s_ l ⟨([] : List (List UInt8)), r163.1, r163.2.1⟩).bind fun s319 => onSum s319 (fun s240 =>
   some (({ Rest := ([] : List UInt8), Args := s240.1, Left := s240.2.1, Size := s240.2.2, Body := false, Need := 0, Dead := 0 } : api.Input), 0)) fun s319x => some s319x
 else
  some (({ Rest := s_, Args := ([] : List (List UInt8)), Left := 0, Size := 0, Body := false, Need := 0, Dead := 0 } : api.Input), r163.2.2)

structure mewsref04.digit.S0 where
 i : Int

noncomputable def mewsref04.digit.body0 (c_ : Int) (s149 : mewsref04.digit.S0) : Option (mewsref04.digit.S0 ⊕ (Unit ⊕ Int)) :=
 if s149.i < 16 then
  (
   need (InB s149.i [48, 49, 50, 51, 52, 53, 54, 55, 56, 57, 97, 98, 99, 100, 101, 102].length) <|
   if (bix [48, 49, 50, 51, 52, 53, 54, 55, 56, 57, 97, 98, 99, 100, 101, 102] s149.i) = c_ then
    some true
   else
    need (InB s149.i [48, 49, 50, 51, 52, 53, 54, 55, 56, 57, 65, 66, 67, 68, 69, 70].length) <|
    some (decide ((bix [48, 49, 50, 51, 52, 53, 54, 55, 56, 57, 65, 66, 67, 68, 69, 70] s149.i) = c_))).bind fun s156 =>
  if s156 = true then
   some (.inr (.inr s149.i))
  else
   some (.inl ⟨IntKind.wrap .i64 (s149.i + 1)⟩)
 else
  some (.inr (.inl ()))

noncomputable def mewsref04.digit.loop0 (c_ : Int) (s149 : mewsref04.digit.S0) : Option (Unit ⊕ Int) := whileO (mewsref04.digit.body0 c_) s149

noncomputable def mewsref04.digit (c_ : Int) : Option Int :=
 (mewsref04.digit.loop0 c_ ⟨0⟩).bind fun s164 => onSum s164 (fun s122 =>
  some 16) fun s164x => some s164x

structure mewsref04.turned.S0 where
 i : Int

noncomputable def mewsref04.turned.body0 (c_ : Int) (s72 : mewsref04.turned.S0) : Option (mewsref04.turned.S0 ⊕ (Unit ⊕ Int)) :=
 if s72.i < ([110, 114, 116, 98, 97].length : Int) then
  need (InB s72.i [110, 114, 116, 98, 97].length) <|
  if (bix [110, 114, 116, 98, 97] s72.i) = c_ then
   need (InB s72.i [10, 13, 9, 8, 7].length) <|
   some (.inr (.inr (bix [10, 13, 9, 8, 7] s72.i)))
  else
   some (.inl ⟨IntKind.wrap .i64 (s72.i + 1)⟩)
 else
  some (.inr (.inl ()))

noncomputable def mewsref04.turned.loop0 (c_ : Int) (s72 : mewsref04.turned.S0) : Option (Unit ⊕ Int) := whileO (mewsref04.turned.body0 c_) s72

noncomputable def mewsref04.turned (c_ : Int) : Option Int :=
 (mewsref04.turned.loop0 c_ ⟨0⟩).bind fun s80 => onSum s80 (fun s59 =>
  some c_) fun s80x => some s80x

structure mewsref04.Split.S0 where
 out : List (List UInt8)
 in_ : Int
 open_ : Bool
 closed : Bool
 now : List UInt8
 i : Int

noncomputable def mewsref04.Split.body0 (s_ : List UInt8) (s3033 : mewsref04.Split.S0) : Option (mewsref04.Split.S0 ⊕ (((List (List UInt8)) × Int × Bool × (List UInt8)) ⊕ ((List (List UInt8)) × Bool))) :=
 if s3033.i < (s_.length : Int) then
  (
   need (InB s3033.i s_.length) <|
   letO (
    if (bix s_ s3033.i) = 32 then
     true
    else
     decide ((bix s_ s3033.i) = 9)) fun s3142 =>
   letO (
    if s3033.closed = true then
     (!s3142)
    else
     false) fun s3147 =>
   if s3147 = true then
    some (.inr (.inr (.inr (([] : List (List UInt8)), false))))
   else
    letO (
     if s3033.in_ = 0 then
      s3142
     else
      false) fun s3153 =>
    if s3153 = true then
     (
      if s3033.open_ = true then
       need ((s3033.out.length + [s3033.now].length) * 16 ≤ 140737488355328) <|
       some (s3033.out ++ [s3033.now])
      else
       some s3033.out).bind fun s3160 =>
     some (.inl (s3160, s3033.in_, false, false, ([] : List UInt8), s3033.i))
    else
     letO (
      if s3033.in_ = 0 then
       if (bix s_ s3033.i) = 34 then
        true
       else
        decide ((bix s_ s3033.i) = 39)
      else
       false) fun s3169 =>
     if s3169 = true then
      some (.inl (s3033.out, bix s_ s3033.i, true, false, s3033.now, s3033.i))
     else
      if s3033.in_ = 0 then
       need (InR s3033.i (IntKind.wrap .i64 (s3033.i + 1)) s_.length) <|
       need (s3033.now.length + (sub s_ s3033.i (IntKind.wrap .i64 (s3033.i + 1))).length ≤ 9223372036854775807) <|
       some (.inl (s3033.out, s3033.in_, true, false, s3033.now ++ (sub s_ s3033.i (IntKind.wrap .i64 (s3033.i + 1))), s3033.i))
      else
       if (bix s_ s3033.i) = s3033.in_ then
        some (.inl (s3033.out, 0, s3033.open_, true, s3033.now, s3033.i))
       else
        (
         if (bix s_ s3033.i) = 92 then
          if s3033.in_ = 34 then
           if (IntKind.wrap .i64 (s3033.i + 3)) < (s_.length : Int) then
            need (InB (IntKind.wrap .i64 (s3033.i + 1)) s_.length) <|
            if (bix s_ (IntKind.wrap .i64 (s3033.i + 1))) = 120 then
             need (InB (IntKind.wrap .i64 (s3033.i + 2)) s_.length) <|
             (mewsref04.digit (bix s_ (IntKind.wrap .i64 (s3033.i + 2)))).bind fun r3195 =>
             if r3195 < 16 then
              need (InB (IntKind.wrap .i64 (s3033.i + 3)) s_.length) <|
              (mewsref04.digit (bix s_ (IntKind.wrap .i64 (s3033.i + 3)))).bind fun r3198 =>
              some (decide (r3198 < 16))
             else
              some false
            else
             some false
           else
            some false
          else
           some false
         else
          some false).bind fun s3186 =>
        if s3186 = true then
         need (InB (IntKind.wrap .i64 (s3033.i + 2)) s_.length) <|
         (mewsref04.digit (bix s_ (IntKind.wrap .i64 (s3033.i + 2)))).bind fun r3200 =>
         need (InB (IntKind.wrap .i64 (s3033.i + 3)) s_.length) <|
         (mewsref04.digit (bix s_ (IntKind.wrap .i64 (s3033.i + 3)))).bind fun r3202 =>
         need (IsU8 (IntKind.wrap .u8 (IntKind.wrap .i64 ((IntKind.wrap .i64 (16 * r3200)) + r3202)))) <|
         need (s3033.now.length + [u8 (IntKind.wrap .u8 (IntKind.wrap .i64 ((IntKind.wrap .i64 (16 * r3200)) + r3202)))].length ≤ 9223372036854775807) <|
         letO (s3033.now ++ [u8 (IntKind.wrap .u8 (IntKind.wrap .i64 ((IntKind.wrap .i64 (16 * r3200)) + r3202)))]) fun x3205 =>
         some (.inl (s3033.out, s3033.in_, s3033.open_, false, x3205, IntKind.wrap .i64 (s3033.i + 3)))
        else
         letO (
          if (bix s_ s3033.i) = 92 then
           if s3033.in_ = 34 then
            decide ((IntKind.wrap .i64 (s3033.i + 1)) < (s_.length : Int))
           else
            false
          else
           false) fun s3208 =>
         if s3208 = true then
          need (InB (IntKind.wrap .i64 (s3033.i + 1)) s_.length) <|
          (mewsref04.turned (bix s_ (IntKind.wrap .i64 (s3033.i + 1)))).bind fun r3214 =>
          need (IsU8 r3214) <|
          need (s3033.now.length + [u8 r3214].length ≤ 9223372036854775807) <|
          some (.inl (s3033.out, s3033.in_, s3033.open_, false, s3033.now ++ [u8 r3214], IntKind.wrap .i64 (s3033.i + 1)))
         else
          (
           if (bix s_ s3033.i) = 92 then
            if s3033.in_ = 39 then
             if (IntKind.wrap .i64 (s3033.i + 1)) < (s_.length : Int) then
              need (InB (IntKind.wrap .i64 (s3033.i + 1)) s_.length) <|
              some (decide ((bix s_ (IntKind.wrap .i64 (s3033.i + 1))) = 39))
             else
              some false
            else
             some false
           else
            some false).bind fun s3221 =>
          if s3221 = true then
           need (s3033.now.length + [39].length ≤ 9223372036854775807) <|
           some (.inl (s3033.out, s3033.in_, s3033.open_, false, s3033.now ++ [39], IntKind.wrap .i64 (s3033.i + 1)))
          else
           need (InR s3033.i (IntKind.wrap .i64 (s3033.i + 1)) s_.length) <|
           need (s3033.now.length + (sub s_ s3033.i (IntKind.wrap .i64 (s3033.i + 1))).length ≤ 9223372036854775807) <|
           some (.inl (s3033.out, s3033.in_, s3033.open_, false, s3033.now ++ (sub s_ s3033.i (IntKind.wrap .i64 (s3033.i + 1))), s3033.i))).bind fun s3239 => onSum s3239 (fun s3136 =>
   some (.inl ⟨s3136.1, s3136.2.1, s3136.2.2.1, s3136.2.2.2.1, s3136.2.2.2.2.1, IntKind.wrap .i64 (s3136.2.2.2.2.2 + 1)⟩)) fun s3239x => some s3239x
 else
  some (.inr (.inl (s3033.out, s3033.in_, s3033.open_, s3033.now)))

noncomputable def mewsref04.Split.loop0 (s_ : List UInt8) (s3033 : mewsref04.Split.S0) : Option (((List (List UInt8)) × Int × Bool × (List UInt8)) ⊕ ((List (List UInt8)) × Bool)) := whileO (mewsref04.Split.body0 s_) s3033

noncomputable def mewsref04.Split (s_ : List UInt8) : Option ((List (List UInt8)) × Bool) :=
 (mewsref04.Split.loop0 s_ ⟨([] : List (List UInt8)), 0, false, false, ([] : List UInt8), 0⟩).bind fun s3254 => onSum s3254 (fun s2432 =>
  if s2432.2.1 = 0 then
   (
    if s2432.2.2.1 = true then
     need ((s2432.1.length + [s2432.2.2.2].length) * 16 ≤ 140737488355328) <|
     some (s2432.1 ++ [s2432.2.2.2])
    else
     some s2432.1).bind fun s3246 =>
   some (s3246, true)
  else
   some (([] : List (List UInt8)), false)) fun s3254x => some s3254x

structure mewsref05.one.S0 where
 i : Int

structure mewsref05.one.S2 where
 k : Int

noncomputable def mewsref05.one.body2 (r1652 : (List (List UInt8)) × Bool) (l : api.Limits) (s1680 : mewsref05.one.S2) : Option (mewsref05.one.S2 ⊕ (Unit ⊕ (Unit ⊕ (mewsref05.one.S0 ⊕ (Unit ⊕ (api.Input × Int)))))) :=
 if s1680.k < (r1652.1.length : Int) then
  need (InB s1680.k r1652.1.length) <|
  if l.Bulk < ((ix r1652.1 s1680.k).length : Int) then
   some (.inr (.inr (.inr (.inr (.inr (({ Rest := ([] : List UInt8), Args := ([] : List (List UInt8)), Left := 0, Size := 0, Body := false, Need := 0, Dead := 0 } : api.Input), 6))))))
  else
   some (.inl ⟨IntKind.wrap .i64 (s1680.k + 1)⟩)
 else
  some (.inr (.inl ()))

noncomputable def mewsref05.one.loop2 (r1652 : (List (List UInt8)) × Bool) (l : api.Limits) (s1680 : mewsref05.one.S2) : Option (Unit ⊕ (Unit ⊕ (mewsref05.one.S0 ⊕ (Unit ⊕ (api.Input × Int))))) := whileO (mewsref05.one.body2 r1652 l) s1680

noncomputable def mewsref05.one.body0 (s_ : List UInt8) (l : api.Limits) (s1551 : mewsref05.one.S0) : Option (mewsref05.one.S0 ⊕ (Unit ⊕ (api.Input × Int))) :=
 letO (
  if s1551.i < (s_.length : Int) then
   decide (s1551.i ≤ l.Line)
  else
   false) fun s1556 =>
 if s1556 = true then
  (
   need (InB s1551.i s_.length) <|
   if (bix s_ s1551.i) = 10 then
    need (InR 0 s1551.i s_.length) <|
    (
     (
      if 0 < s1551.i then
       need (InB (IntKind.wrap .i64 (s1551.i - 1)) (sub s_ 0 s1551.i).length) <|
       some (decide ((bix (sub s_ 0 s1551.i) (IntKind.wrap .i64 (s1551.i - 1))) = 13))
      else
       some false).bind fun s1644 =>
     if s1644 = true then
      need (InR 0 (IntKind.wrap .i64 (s1551.i - 1)) (sub s_ 0 s1551.i).length) <|
      letO (sub (sub s_ 0 s1551.i) 0 (IntKind.wrap .i64 (s1551.i - 1))) fun x1650 =>
      some x1650
     else
      some (sub s_ 0 s1551.i)).bind fun s1639 =>
    (mewsref04.Split s1639).bind fun r1652 =>
    if (!r1652.2) = true then
     some (.inr (.inr (.inr (({ Rest := ([] : List UInt8), Args := ([] : List (List UInt8)), Left := 0, Size := 0, Body := false, Need := 0, Dead := 0 } : api.Input), 16))))
    else
     if l.Args < (r1652.1.length : Int) then
      some (.inr (.inr (.inr (({ Rest := ([] : List UInt8), Args := ([] : List (List UInt8)), Left := 0, Size := 0, Body := false, Need := 0, Dead := 0 } : api.Input), 7))))
     else
      (mewsref05.one.loop2 r1652 l ⟨0⟩).bind fun s1687 => onSum s1687 (fun s1669 =>
       some (.inr (.inr (.inr (({ Rest := ([] : List UInt8), Args := r1652.1, Left := 0, Size := IntKind.wrap .i64 (s1551.i + 1), Body := false, Need := 0, Dead := 0 } : api.Input), 0))))) fun s1687x => some s1687x
   else
    some (.inl ())).bind fun s1691 => onSum s1691 (fun s1624 =>
   some (.inl ⟨IntKind.wrap .i64 (s1551.i + 1)⟩)) fun s1691x => some s1691x
 else
  some (.inr (.inl ()))

noncomputable def mewsref05.one.loop0 (s_ : List UInt8) (l : api.Limits) (s1551 : mewsref05.one.S0) : Option (Unit ⊕ (api.Input × Int)) := whileO (mewsref05.one.body0 s_ l) s1551

noncomputable def mewsref05.one (s_ : List UInt8) (l : api.Limits) : Option (api.Input × Int) :=
 (mewsref05.one.loop0 s_ l ⟨0⟩).bind fun s1694 => onSum s1694 (fun s1270 =>
  if l.Line < (s_.length : Int) then
   some (({ Rest := ([] : List UInt8), Args := ([] : List (List UInt8)), Left := 0, Size := 0, Body := false, Need := 0, Dead := 0 } : api.Input), 6)
  else
   some (({ Rest := s_, Args := ([] : List (List UInt8)), Left := 0, Size := 0, Body := false, Need := 0, Dead := 0 } : api.Input), (-1))) fun s1694x => some s1694x

structure mewsref05.All.S0 where
 s : List UInt8
 out : List api.Request

noncomputable def mewsref05.All.body0 (r187 : api.Limits) (s336 : mewsref05.All.S0) : Option (mewsref05.All.S0 ⊕ ((List api.Request) ⊕ (api.Input × (List api.Request)))) :=
 if s336.s = ([] : List UInt8) then
  some (.inr (.inl s336.out))
 else
  (
   need (InB 0 s336.s.length) <|
   if (bix s336.s 0) = 42 then
    (mewsref05.many s336.s r187).bind fun r350 =>
    some (r350.2, r350.1.Rest, r350.1.Args, r350.1.Left, r350.1.Size, r350.1.Body, r350.1.Need, r350.1.Dead)
   else
    (mewsref05.one s336.s r187).bind fun r351 =>
    some (r351.2, r351.1.Rest, r351.1.Args, r351.1.Left, r351.1.Size, r351.1.Body, r351.1.Need, r351.1.Dead)).bind fun s346 =>
  if s346.1 = (-1) then
   some (.inr (.inr (({ Rest := s346.2.1, Args := s346.2.2.1, Left := s346.2.2.2.1, Size := s346.2.2.2.2.1, Body := s346.2.2.2.2.2.1, Need := s346.2.2.2.2.2.2.1, Dead := s346.2.2.2.2.2.2.2 } : api.Input), s336.out)))
  else
   if s346.1 = 0 then
    (
     if 0 < (s346.2.2.1.length : Int) then
      need ((s336.out.length + [({ Args := s346.2.2.1, Size := s346.2.2.2.2.1 } : api.Request)].length) * 32 ≤ 140737488355328) <|
      some (s336.out ++ [({ Args := s346.2.2.1, Size := s346.2.2.2.2.1 } : api.Request)])
     else
      some s336.out).bind fun s356 =>
    need (InR s346.2.2.2.2.1 (s336.s.length : Int) s336.s.length) <|
    some (.inl ⟨sub s336.s s346.2.2.2.2.1 (s336.s.length : Int), s356⟩)
   else
    some (.inr (.inr (({ Rest := ([] : List UInt8), Args := ([] : List (List UInt8)), Left := 0, Size := 0, Body := false, Need := 0, Dead := s346.1 } : api.Input), s336.out)))

noncomputable def mewsref05.All.loop0 (r187 : api.Limits) (s336 : mewsref05.All.S0) : Option ((List api.Request) ⊕ (api.Input × (List api.Request))) := whileO (mewsref05.All.body0 r187) s336

noncomputable def mewsref05.All (s_ : List UInt8) (l : api.Limits) : Option (api.Input × (List api.Request)) :=
 (mewsref05.Limits l).bind fun r187 =>
 (mewsref05.All.loop0 r187 ⟨s_, ([] : List api.Request)⟩).bind fun s368 => onSum s368 (fun s276 =>
  some (({ Rest := ([] : List UInt8), Args := ([] : List (List UInt8)), Left := 0, Size := 0, Body := false, Need := 0, Dead := 0 } : api.Input), s276)) fun s368x => some s368x

noncomputable def mewsref05.SameInput (a : api.Input) (b : api.Input) : Option Bool :=
 (
  if a.Rest = b.Rest then
   (mewsref05.texts a.Args b.Args).bind fun r33 =>
   if r33 = true then
    if a.Left = b.Left then
     if a.Size = b.Size then
      if (a.Body == b.Body) = true then
       if a.Need = b.Need then
        some (decide (a.Dead = b.Dead))
       else
        some false
      else
       some false
     else
      some false
    else
     some false
   else
    some false
  else
   some false).bind fun s29 =>
 some s29

noncomputable def mewslaw05.ParseFeeds (s_ : List UInt8) (l : api.Limits) : Option Bool :=
 (mewslaw05.far [s_]).bind fun r49 =>
 if r49 = true then
  (mewslaw05.alive).bind fun r50 =>
  some r50
 else
  (parse.Feed ({ Rest := ([] : List UInt8), Args := ([] : List (List UInt8)), Left := 0, Size := 0, Body := false, Need := 0, Dead := 0 } : api.Input) s_ l).bind fun r51 =>
  (mewsref05.All s_ l).bind fun r54 =>
  (
   (mewsref05.SameInput r51.1 r54.1).bind fun r77 =>
   if r77 = true then
    (mewsref05.Same r51.2.1 r54.2).bind fun r79 =>
    if r79 = true then
     if r51.2.2 = r54.1.Dead then
      (parse.Limits l).bind fun r82 =>
      (mewsref05.Limits l).bind fun r83 =>
      if r82 = r83 then
       (parse.Idle r51.1).bind fun r85 =>
       if r54.1.Rest = ([] : List UInt8) then
        if r54.1.Size = 0 then
         if (r85 == (decide (r54.1.Dead = 0))) = true then
          (mewslaw05.alive).bind fun r89 =>
          some r89
         else
          some false
        else
         if (r85 == false) = true then
          (mewslaw05.alive).bind fun r91 =>
          some r91
         else
          some false
       else
        if (r85 == false) = true then
         (mewslaw05.alive).bind fun r93 =>
         some r93
        else
         some false
      else
       some false
     else
      some false
    else
     some false
   else
    some false).bind fun s74 =>
  some s74

structure mewslaw05.ParsePieces.S0 where
 all_ : List UInt8
 got : List api.Request
 t22 : Int
 c : List UInt8
 c2 : List (List UInt8)
 c3 : Int
 c4 : Int
 c5 : Bool
 c6 : Int
 c7 : Int

noncomputable def mewslaw05.ParsePieces.body0 (pieces : List (List UInt8)) (l : api.Limits) (s263 : mewslaw05.ParsePieces.S0) : Option (mewslaw05.ParsePieces.S0 ⊕ (((List UInt8) × (List api.Request) × (List UInt8) × (List (List UInt8)) × Int × Int × Bool × Int × Int) ⊕ Bool)) :=
 if s263.t22 < (pieces.length : Int) then
  need (InB s263.t22 pieces.length) <|
  (parse.Feed ({ Rest := s263.c, Args := s263.c2, Left := s263.c3, Size := s263.c4, Body := s263.c5, Need := s263.c6, Dead := s263.c7 } : api.Input) (ix pieces s263.t22) l).bind fun r269 =>
  letO (
   if r269.2.2 = r269.1.Dead then
    if s263.c7 = 0 then
     false
    else
     if 0 < (r269.2.1.length : Int) then
      true
     else
      (!decide (r269.2.2 = s263.c7))
   else
    true) fun s275 =>
  if s275 = true then
   some (.inr (.inr false))
  else
   need ((s263.got.length + r269.2.1.length) * 32 ≤ 140737488355328) <|
   need (s263.all_.length + (ix pieces s263.t22).length ≤ 9223372036854775807) <|
   some (.inl ⟨s263.all_ ++ (ix pieces s263.t22), s263.got ++ r269.2.1, IntKind.wrap .i64 (s263.t22 + 1), r269.1.Rest, r269.1.Args, r269.1.Left, r269.1.Size, r269.1.Body, r269.1.Need, r269.1.Dead⟩)
 else
  some (.inr (.inl (s263.all_, s263.got, s263.c, s263.c2, s263.c3, s263.c4, s263.c5, s263.c6, s263.c7)))

noncomputable def mewslaw05.ParsePieces.loop0 (pieces : List (List UInt8)) (l : api.Limits) (s263 : mewslaw05.ParsePieces.S0) : Option (((List UInt8) × (List api.Request) × (List UInt8) × (List (List UInt8)) × Int × Int × Bool × Int × Int) ⊕ Bool) := whileO (mewslaw05.ParsePieces.body0 pieces l) s263

noncomputable def mewslaw05.ParsePieces (pieces : List (List UInt8)) (l : api.Limits) : Option Bool :=
 (mewslaw05.far pieces).bind fun r154 =>
 if r154 = true then
  (mewslaw05.alive).bind fun r155 =>
  some r155
 else
  (mewslaw05.ParsePieces.loop0 pieces l ⟨([] : List UInt8), ([] : List api.Request), 0, ([] : List UInt8), ([] : List (List UInt8)), 0, 0, false, 0, 0⟩).bind fun s303 => onSum s303 (fun s220 =>
   (parse.Feed ({ Rest := ([] : List UInt8), Args := ([] : List (List UInt8)), Left := 0, Size := 0, Body := false, Need := 0, Dead := 0 } : api.Input) s220.1 l).bind fun r287 =>
   (
    (mewsref05.SameInput ({ Rest := s220.2.2.1, Args := s220.2.2.2.1, Left := s220.2.2.2.2.1, Size := s220.2.2.2.2.2.1, Body := s220.2.2.2.2.2.2.1, Need := s220.2.2.2.2.2.2.2.1, Dead := s220.2.2.2.2.2.2.2.2 } : api.Input) r287.1).bind fun r298 =>
    if r298 = true then
     (mewsref05.Same s220.2.1 r287.2.1).bind fun r300 =>
     if r300 = true then
      (mewslaw05.alive).bind fun r302 =>
      some r302
     else
      some false
    else
     some false).bind fun s295 =>
   some s295) fun s303x => some s303x

structure mewslaw43.far.S0 where
 n : Int
 t8 : Int

noncomputable def mewslaw43.far.body0 (l : List mewslaw43.Op) (s72 : mewslaw43.far.S0) : Option (mewslaw43.far.S0 ⊕ (Unit ⊕ Bool)) :=
 if s72.t8 < (l.length : Int) then
  need (InB s72.t8 l.length) <|
  if 3000 < (IntKind.wrap .i64 (s72.n + (IntKind.wrap .i64 (1 + (if 10000 < ((ix l s72.t8).S.length : Int) then 10000 else ((ix l s72.t8).S.length : Int)))))) then
   some (.inr (.inr true))
  else
   some (.inl ⟨IntKind.wrap .i64 (s72.n + (IntKind.wrap .i64 (1 + (if 10000 < ((ix l s72.t8).S.length : Int) then 10000 else ((ix l s72.t8).S.length : Int))))), IntKind.wrap .i64 (s72.t8 + 1)⟩)
 else
  some (.inr (.inl ()))

noncomputable def mewslaw43.far.loop0 (l : List mewslaw43.Op) (s72 : mewslaw43.far.S0) : Option (Unit ⊕ Bool) := whileO (mewslaw43.far.body0 l) s72

noncomputable def mewslaw43.far (l : List mewslaw43.Op) : Option Bool :=
 (mewslaw43.far.loop0 l ⟨0, 0⟩).bind fun s80 => onSum s80 (fun s59 =>
  some false) fun s80x => some s80x

noncomputable def conn.Open (now : Int) : Option api.Conn :=
 some ({ Born := now, Tenant := (-1), In := ({ Rest := ([] : List UInt8), Args := ([] : List (List UInt8)), Left := 0, Size := 0, Body := false, Need := 0, Dead := 0 } : api.Input), Asked := 0, Held := ([] : List api.Held), Out := ([] : List UInt8), Taken := 0, Shut := false, Closed := false } : api.Conn)

noncomputable def slices.Clone_api_Held (s : List api.Held) : Option (List api.Held) :=
 need ((([] : List api.Held).length + s.length) * 24 ≤ 140737488355328) <|
 some s

structure conn.Free.S0 where
 n : Int
 c : List UInt8

noncomputable def conn.Free.body0 (c_ : api.Conn) (durable : Int) (s98 : conn.Free.S0) : Option (conn.Free.S0 ⊕ (Int × (List UInt8))) :=
 if s98.n < (c_.Held.length : Int) then
  need (InB s98.n c_.Held.length) <|
  if durable < (ix c_.Held s98.n).Need then
   some (.inr (s98.n, s98.c))
  else
   need (s98.c.length + (ix c_.Held s98.n).S.length ≤ 9223372036854775807) <|
   some (.inl ⟨IntKind.wrap .i64 (s98.n + 1), s98.c ++ (ix c_.Held s98.n).S⟩)
 else
  some (.inr (s98.n, s98.c))

noncomputable def conn.Free.loop0 (c_ : api.Conn) (durable : Int) (s98 : conn.Free.S0) : Option (Int × (List UInt8)) := whileO (conn.Free.body0 c_ durable) s98

noncomputable def conn.Free (c_ : api.Conn) (durable : Int) : Option api.Conn :=
 (conn.Free.loop0 c_ durable ⟨0, c_.Out⟩).bind fun s83 =>
 need (InR s83.1 (c_.Held.length : Int) c_.Held.length) <|
 (slices.Clone_api_Held (sub c_.Held s83.1 (c_.Held.length : Int))).bind fun r108 =>
 letO (
  if c_.Closed = true then
   true
  else
   if c_.Shut = true then
    if c_.Asked = 0 then
     decide ((r108.length : Int) = 0)
    else
     false
   else
    false) fun s113 =>
 some { c_ with Held := r108, Out := s83.2, Closed := s113 }

structure conn.Pending.S0 where
 n : Int
 t12 : Int

noncomputable def conn.Pending.body0 (c_ : api.Conn) (s62 : conn.Pending.S0) : Option (conn.Pending.S0 ⊕ Int) :=
 if s62.t12 < (c_.Held.length : Int) then
  need (InB s62.t12 c_.Held.length) <|
  some (.inl ⟨IntKind.wrap .i64 (s62.n + ((ix c_.Held s62.t12).S.length : Int)), IntKind.wrap .i64 (s62.t12 + 1)⟩)
 else
  some (.inr s62.n)

noncomputable def conn.Pending.loop0 (c_ : api.Conn) (s62 : conn.Pending.S0) : Option Int := whileO (conn.Pending.body0 c_) s62

noncomputable def conn.Pending (c_ : api.Conn) : Option Int :=
 (conn.Pending.loop0 c_ ⟨(c_.Out.length : Int), 0⟩).bind fun s51 =>
 some s51

noncomputable def conn.Say (c_ : api.Conn) (s_ : List UInt8) (need_ : Int) (durable : Int) (t_ : api.Tenant) : Option api.Conn :=
 if c_.Closed = true then
  some c_
 else
  (slices.Clone_api_Held c_.Held).bind fun r23 =>
  need ((r23.length + [({ Need := need_, S := s_ } : api.Held)].length) * 24 ≤ 140737488355328) <|
  (conn.Free { c_ with Held := r23 ++ [({ Need := need_, S := s_ } : api.Held)] } durable).bind fun r27 =>
  (
   (conn.Pending r27).bind fun r35 =>
   if t_.Out < r35 then
    some (([] : List api.Held), ([] : List UInt8), true)
   else
    some (r27.Held, r27.Out, r27.Closed)).bind fun s31 =>
  some { r27 with Held := s31.1, Out := s31.2.1, Closed := s31.2.2 }

noncomputable def conn.Take (c_ : api.Conn) (n_ : Int) : Option (api.Conn × (List UInt8)) :=
 need (InR 0 (if (c_.Out.length : Int) < (if n_ < 0 then 0 else n_) then (c_.Out.length : Int) else (if n_ < 0 then 0 else n_)) c_.Out.length) <|
 need (InR (if (c_.Out.length : Int) < (if n_ < 0 then 0 else n_) then (c_.Out.length : Int) else (if n_ < 0 then 0 else n_)) (c_.Out.length : Int) c_.Out.length) <|
 some ({ c_ with Out := sub c_.Out (if (c_.Out.length : Int) < (if n_ < 0 then 0 else n_) then (c_.Out.length : Int) else (if n_ < 0 then 0 else n_)) (c_.Out.length : Int), Taken := IntKind.wrap .i64 (c_.Taken + (if (c_.Out.length : Int) < (if n_ < 0 then 0 else n_) then (c_.Out.length : Int) else (if n_ < 0 then 0 else n_))) }, sub c_.Out 0 (if (c_.Out.length : Int) < (if n_ < 0 then 0 else n_) then (c_.Out.length : Int) else (if n_ < 0 then 0 else n_)))

structure conn.Read.S0 where
 t36 : Int
 c : Int

noncomputable def conn.Read.body0 (r76 : api.Input × (List api.Request) × Int) (s105 : conn.Read.S0) : Option (conn.Read.S0 ⊕ Int) :=
 if s105.t36 < (r76.2.1.length : Int) then
  need (InB s105.t36 r76.2.1.length) <|
  some (.inl ⟨IntKind.wrap .i64 (s105.t36 + 1), IntKind.wrap .i64 (s105.c + (ix r76.2.1 s105.t36).Size)⟩)
 else
  some (.inr s105.c)

noncomputable def conn.Read.loop0 (r76 : api.Input × (List api.Request) × Int) (s105 : conn.Read.S0) : Option Int := whileO (conn.Read.body0 r76) s105

noncomputable def conn.Read (c_ : api.Conn) (s_ : List UInt8) (t_ : api.Tenant) : Option (api.Conn × (List api.Request) × (List UInt8)) :=
 letO (
  if c_.Shut = true then
   true
  else
   c_.Closed) fun s71 =>
 if s71 = true then
  some (c_, ([] : List api.Request), ([] : List UInt8))
 else
  (parse.Feed c_.In s_ t_.Limits).bind fun r76 =>
  (conn.Read.loop0 r76 ⟨0, c_.Asked⟩).bind fun s94 =>
  letO (
   if r76.2.2 = 0 then
    letO (
     if t_.In < s94 then
      true
     else
      if (IntKind.wrap .i64 (t_.In - s94)) < r76.1.Size then
       true
      else
       decide ((IntKind.wrap .i64 ((IntKind.wrap .i64 (t_.In - s94)) - r76.1.Size)) < (r76.1.Rest.length : Int))) fun s126 =>
    if s126 = true then
     [69, 82, 82, 32, 105, 110, 112, 117, 116, 32, 98, 117, 102, 102, 101, 114, 32, 105, 115, 32, 102, 117, 108, 108]
    else
     ([] : List UInt8)
   else
    [69, 82, 82, 32, 80, 114, 111, 116, 111, 99, 111, 108, 32, 101, 114, 114, 111, 114]) fun s121 =>
  some ({ c_ with In := r76.1, Asked := s94, Shut := (!decide (s121 = ([] : List UInt8))) }, r76.2.1, s121)

noncomputable def mewslaw43.alive  : Option Bool :=
 (conn.Open 7).bind fun r31 =>
 (conn.Say r31 [97] 2 0 ({ Name := ([] : List UInt8), Token := ([] : List UInt8), Memory := 0, Policy := 0, Conns := 0, In := 100, Out := 100, Burst := 0, Rate := 0, Disk := 0, Sync := 0, Limits := ({ Args := 9, Bulk := 9, Line := 9 } : api.Limits) } : api.Tenant)).bind fun r32 =>
 (conn.Say r32 [98] 0 0 ({ Name := ([] : List UInt8), Token := ([] : List UInt8), Memory := 0, Policy := 0, Conns := 0, In := 100, Out := 100, Burst := 0, Rate := 0, Disk := 0, Sync := 0, Limits := ({ Args := 9, Bulk := 9, Line := 9 } : api.Limits) } : api.Tenant)).bind fun r33 =>
 (conn.Free r33 2).bind fun r35 =>
 (conn.Take r35 9).bind fun r37 =>
 (conn.Open 7).bind fun r39 =>
 (conn.Read r39 [71, 69, 84, 32, 97, 10, 120] ({ Name := ([] : List UInt8), Token := ([] : List UInt8), Memory := 0, Policy := 0, Conns := 0, In := 100, Out := 100, Burst := 0, Rate := 0, Disk := 0, Sync := 0, Limits := ({ Args := 9, Bulk := 9, Line := 9 } : api.Limits) } : api.Tenant)).bind fun r40 =>
 letO (
  if r33.Out = ([] : List UInt8) then
   if r37.2 = [97, 98] then
    if r37.1.Taken = 2 then
     if (r40.2.1.length : Int) = 1 then
      if r40.2.2 = ([] : List UInt8) then
       if r40.1.Asked = 6 then
        if r40.1.In.Rest = [120] then
         decide (r40.1.Tenant = (-1))
        else
         false
       else
        false
      else
       false
     else
      false
    else
     false
   else
    false
  else
   false) fun s49 =>
 some s49

noncomputable def mewslaw43.right_ (t_ : api.Tenant) : Option api.Tenant :=
 some { t_ with In := if 1048576 < (if t_.In < 0 then 0 else t_.In) then 1048576 else (if t_.In < 0 then 0 else t_.In), Out := if 4194304 < (if t_.Out < 0 then 0 else t_.Out) then 4194304 else (if t_.Out < 0 then 0 else t_.Out) }

structure mewslaw43.ConnPieces.S0 where
 l : List mewslaw43.Op
 t21 : Int

noncomputable def mewslaw43.ConnPieces.body0 (pieces : List (List UInt8)) (s230 : mewslaw43.ConnPieces.S0) : Option (mewslaw43.ConnPieces.S0 ⊕ (List mewslaw43.Op)) :=
 if s230.t21 < (pieces.length : Int) then
  need (InB s230.t21 pieces.length) <|
  need ((s230.l.length + [({ Kind := 0, S := ix pieces s230.t21, N := 0, M := 0 } : mewslaw43.Op)].length) * 40 ≤ 140737488355328) <|
  some (.inl ⟨s230.l ++ [({ Kind := 0, S := ix pieces s230.t21, N := 0, M := 0 } : mewslaw43.Op)], IntKind.wrap .i64 (s230.t21 + 1)⟩)
 else
  some (.inr s230.l)

noncomputable def mewslaw43.ConnPieces.loop0 (pieces : List (List UInt8)) (s230 : mewslaw43.ConnPieces.S0) : Option (List mewslaw43.Op) := whileO (mewslaw43.ConnPieces.body0 pieces) s230

structure mewslaw43.ConnPieces.S2 where
 got : List api.Request
 all_ : List UInt8
 t39 : Int
 c : Int
 c2 : Int
 c3 : List UInt8
 c4 : List (List UInt8)
 c5 : Int
 c6 : Int
 c7 : Bool
 c8 : Int
 c9 : Int
 c10 : Int
 c11 : List api.Held
 c12 : List UInt8
 c13 : Int
 c14 : Bool
 c15 : Bool

noncomputable def mewslaw43.ConnPieces.body2 (pieces : List (List UInt8)) (r242 : api.Tenant) (s341 : mewslaw43.ConnPieces.S2) : Option (mewslaw43.ConnPieces.S2 ⊕ (((List api.Request) × (List UInt8) × Int × Int × (List UInt8) × (List (List UInt8)) × Int × Int × Bool × Int × Int × Int × (List api.Held) × (List UInt8) × Int × Bool × Bool) ⊕ Bool)) :=
 if s341.t39 < (pieces.length : Int) then
  need (InB s341.t39 pieces.length) <|
  (conn.Read ({ Born := s341.c, Tenant := s341.c2, In := ({ Rest := s341.c3, Args := s341.c4, Left := s341.c5, Size := s341.c6, Body := s341.c7, Need := s341.c8, Dead := s341.c9 } : api.Input), Asked := s341.c10, Held := s341.c11, Out := s341.c12, Taken := s341.c13, Shut := s341.c14, Closed := s341.c15 } : api.Conn) (ix pieces s341.t39) r242).bind fun r347 =>
  if r347.2.2 = ([] : List UInt8) then
   need ((s341.got.length + r347.2.1.length) * 32 ≤ 140737488355328) <|
   need (s341.all_.length + (ix pieces s341.t39).length ≤ 9223372036854775807) <|
   some (.inl ⟨s341.got ++ r347.2.1, s341.all_ ++ (ix pieces s341.t39), IntKind.wrap .i64 (s341.t39 + 1), r347.1.Born, r347.1.Tenant, r347.1.In.Rest, r347.1.In.Args, r347.1.In.Left, r347.1.In.Size, r347.1.In.Body, r347.1.In.Need, r347.1.In.Dead, r347.1.Asked, r347.1.Held, r347.1.Out, r347.1.Taken, r347.1.Shut, r347.1.Closed⟩)
  else
   (
    if r347.1.Shut = true then
     (mewslaw43.alive).bind fun r356 =>
     some r356
    else
     some false).bind fun s352 =>
   some (.inr (.inr s352))
 else
  some (.inr (.inl (s341.got, s341.all_, s341.c, s341.c2, s341.c3, s341.c4, s341.c5, s341.c6, s341.c7, s341.c8, s341.c9, s341.c10, s341.c11, s341.c12, s341.c13, s341.c14, s341.c15)))

noncomputable def mewslaw43.ConnPieces.loop2 (pieces : List (List UInt8)) (r242 : api.Tenant) (s341 : mewslaw43.ConnPieces.S2) : Option (((List api.Request) × (List UInt8) × Int × Int × (List UInt8) × (List (List UInt8)) × Int × Int × Bool × Int × Int × Int × (List api.Held) × (List UInt8) × Int × Bool × Bool) ⊕ Bool) := whileO (mewslaw43.ConnPieces.body2 pieces r242) s341

noncomputable def mewslaw43.ConnPieces (t_ : api.Tenant) (pieces : List (List UInt8)) : Option Bool :=
 (mewslaw43.ConnPieces.loop0 pieces ⟨([] : List mewslaw43.Op), 0⟩).bind fun s215 =>
 (mewslaw43.far s215).bind fun r240 =>
 if r240 = true then
  (mewslaw43.alive).bind fun r241 =>
  some r241
 else
  (mewslaw43.right_ t_).bind fun r242 =>
  (conn.Open 0).bind fun r243 =>
  (mewslaw43.ConnPieces.loop2 pieces r242 ⟨([] : List api.Request), ([] : List UInt8), 0, r243.Born, r243.Tenant, r243.In.Rest, r243.In.Args, r243.In.Left, r243.In.Size, r243.In.Body, r243.In.Need, r243.In.Dead, r243.Asked, r243.Held, r243.Out, r243.Taken, r243.Shut, r243.Closed⟩).bind fun s383 => onSum s383 (fun s302 =>
   (conn.Open 0).bind fun r363 =>
   (conn.Read r363 s302.2.1 r242).bind fun r364 =>
   (
    if r364.2.2 = ([] : List UInt8) then
     (mewsref05.Same s302.1 r364.2.1).bind fun r377 =>
     if r377 = true then
      if s302.2.2.2.2.2.2.2.2.2.2.2.1 = r364.1.Asked then
       (mewsref05.SameInput ({ Rest := s302.2.2.2.2.1, Args := s302.2.2.2.2.2.1, Left := s302.2.2.2.2.2.2.1, Size := s302.2.2.2.2.2.2.2.1, Body := s302.2.2.2.2.2.2.2.2.1, Need := s302.2.2.2.2.2.2.2.2.2.1, Dead := s302.2.2.2.2.2.2.2.2.2.2.1 } : api.Input) r364.1.In).bind fun r380 =>
       if r380 = true then
        (mewslaw43.alive).bind fun r382 =>
        some r382
       else
        some false
      else
       some false
     else
      some false
    else
     some false).bind fun s373 =>
   some s373) fun s383x => some s383x

end Go.Pu
