/- Printed by lift.py: the functions over data. -/
import Derived.Test.YtfapgollkabopaaCOT
set_option maxRecDepth 100000
set_option maxHeartbeats 0
namespace Go.Pu
open Go.Lift

noncomputable def parse.Limits (l : api.Limits) : Option api.Limits :=
  some ({ Args := if 65536 < (if l.Args < 1 then 1 else l.Args) then 65536 else (if l.Args < 1 then 1 else l.Args), Bulk := if 1048576 < (if l.Bulk < 1 then 1 else l.Bulk) then 1048576 else (if l.Bulk < 1 then 1 else l.Bulk), Line := if 65536 < (if l.Line < 1 then 1 else l.Line) then 65536 else (if l.Line < 1 then 1 else l.Line) } : api.Limits)

noncomputable def slices.Clone_string (s : List (List UInt8)) : Option (List (List UInt8)) :=
  need ((([] : List (List UInt8)).length + s.length) * 16 ≤ 140737488355328) <|
  some s

noncomputable def parse.parser.dies (e : Int) (p_ : parse.parser) : Option (Bool × parse.parser) :=
  some (false, { p_ with in_ := ({ Rest := ([] : List UInt8), Args := ([] : List (List UInt8)), Left := 0, Size := 0, Body := false, Need := 0, Dead := e } : api.Input), s := ([] : List UInt8) })

noncomputable def stringslite.Clone (s : List UInt8) : Option (List UInt8) :=
  need (s.length ≤ 281474976710656) <|
  some s

noncomputable def strings.Clone (s_ : List UInt8) : Option (List UInt8) :=
  (stringslite.Clone s_).bind fun r2 =>
  some r2

noncomputable def parse.parser.past (n_ : Int) (p_ : parse.parser) : Option parse.parser :=
  need (InR n_ (p_.s.length : Int) p_.s.length) <|
  some { p_ with in_ := { p_.in_ with Size := IntKind.wrap .i64 (p_.in_.Size + n_) }, s := sub p_.s n_ (p_.s.length : Int) }

noncomputable def parse.parser.whole (args : List (List UInt8)) (p_ : parse.parser) : Option parse.parser :=
  (
    if 0 < (args.length : Int) then
      need ((p_.out.length + [({ Args := args, Size := p_.in_.Size } : api.Request)].length) * 32 ≤ 140737488355328) <|
      some (p_.out ++ [({ Args := args, Size := p_.in_.Size } : api.Request)])
    else
      some p_.out).bind fun s14 =>
  some { p_ with in_ := ({ Rest := ([] : List UInt8), Args := ([] : List (List UInt8)), Left := 0, Size := 0, Body := false, Need := 0, Dead := 0 } : api.Input), out := s14 }

structure parse.parser.body.S0 where
  t11 : Int

noncomputable def parse.parser.body.body0 (p_ : parse.parser) (s124 : parse.parser.body.S0) : Option (parse.parser.body.S0 ⊕ (Unit ⊕ (Bool × parse.parser))) :=
  if s124.t11 < 2 then
    if (IntKind.wrap .i64 ((p_.s.length : Int) - (if p_.in_.Need < 0 then 0 else p_.in_.Need))) ≤ s124.t11 then
      some (.inr (.inr (false, p_)))
    else
      need (InB (IntKind.wrap .i64 ((if p_.in_.Need < 0 then 0 else p_.in_.Need) + s124.t11)) p_.s.length) <|
      need (InB s124.t11 [13, 10].length) <|
      if (bix p_.s (IntKind.wrap .i64 ((if p_.in_.Need < 0 then 0 else p_.in_.Need) + s124.t11))) = (bix [13, 10] s124.t11) then
        some (.inl ⟨IntKind.wrap .i64 (s124.t11 + 1)⟩)
      else
        (parse.parser.dies 5 p_).bind fun r130 =>
        some (.inr (.inr (r130.1, r130.2)))
  else
    some (.inr (.inl ()))

noncomputable def parse.parser.body.loop0 (p_ : parse.parser) (s124 : parse.parser.body.S0) : Option (Unit ⊕ (Bool × parse.parser)) := whileO (parse.parser.body.body0 p_) s124

noncomputable def parse.parser.body (p_ : parse.parser) : Option (Bool × parse.parser) :=
  (parse.parser.body.loop0 p_ ⟨0⟩).bind fun s155 => onSum s155 (fun s105 =>
    need (InR 0 (if p_.in_.Need < 0 then 0 else p_.in_.Need) p_.s.length) <|
    (strings.Clone (sub p_.s 0 (if p_.in_.Need < 0 then 0 else p_.in_.Need))).bind fun r137 =>
    need ((p_.in_.Args.length + [r137].length) * 16 ≤ 140737488355328) <|
    (parse.parser.past (IntKind.wrap .i64 ((if p_.in_.Need < 0 then 0 else p_.in_.Need) + 2)) { p_ with in_ := ({ Rest := p_.in_.Rest, Args := p_.in_.Args ++ [r137], Left := IntKind.wrap .i64 (p_.in_.Left - 1), Size := p_.in_.Size, Body := false, Need := 0, Dead := p_.in_.Dead } : api.Input) }).bind fun r140 =>
    (
      if r140.in_.Left = 0 then
        (parse.parser.whole r140.in_.Args r140).bind fun r151 =>
        some (r151.in_.Rest, r151.in_.Args, r151.in_.Left, r151.in_.Size, r151.in_.Body, r151.in_.Need, r151.in_.Dead, r151.s, r151.l.Args, r151.l.Bulk, r151.l.Line, r151.out)
      else
        some (r140.in_.Rest, r140.in_.Args, r140.in_.Left, r140.in_.Size, r140.in_.Body, r140.in_.Need, r140.in_.Dead, r140.s, r140.l.Args, r140.l.Bulk, r140.l.Line, r140.out)).bind fun s146 =>
    some (true, ({ in_ := ({ Rest := s146.1, Args := s146.2.1, Left := s146.2.2.1, Size := s146.2.2.2.1, Body := s146.2.2.2.2.1, Need := s146.2.2.2.2.2.1, Dead := s146.2.2.2.2.2.2.1 } : api.Input), s := s146.2.2.2.2.2.2.2.1, l := ({ Args := s146.2.2.2.2.2.2.2.2.1, Bulk := s146.2.2.2.2.2.2.2.2.2.1, Line := s146.2.2.2.2.2.2.2.2.2.2.1 } : api.Limits), out := s146.2.2.2.2.2.2.2.2.2.2.2 } : parse.parser))) fun s155x => some s155x

structure parse.parser.header.S0 where
  n : Int
  i : Int

noncomputable def parse.parser.header.body0 (p_ : parse.parser) (most : Int) (over : Int) (s389 : parse.parser.header.S0) : Option (parse.parser.header.S0 ⊕ (Unit ⊕ (Int × Bool × parse.parser))) :=
  if s389.i < (p_.s.length : Int) then
    need (InB s389.i p_.s.length) <|
    letO (
      if (bix p_.s s389.i) = 13 then
        decide (1 < s389.i)
      else
        false) fun s395 =>
    if s395 = true then
      if (IntKind.wrap .i64 (s389.i + 1)) = (p_.s.length : Int) then
        some (.inr (.inr (0, false, p_)))
      else
        need (InB (IntKind.wrap .i64 (s389.i + 1)) p_.s.length) <|
        if (bix p_.s (IntKind.wrap .i64 (s389.i + 1))) = 10 then
          (parse.parser.past (IntKind.wrap .i64 (s389.i + 2)) p_).bind fun r403 =>
          some (.inr (.inr (s389.n, true, r403)))
        else
          (parse.parser.dies 5 p_).bind fun r400 =>
          some (.inr (.inr (0, r400.1, r400.2)))
    else
      letO (
        if (bix p_.s s389.i) < 48 then
          true
        else
          if 57 < (bix p_.s s389.i) then
            true
          else
            if 1 < s389.i then
              decide (s389.n = 0)
            else
              false) fun s411 =>
      if s411 = true then
        (parse.parser.dies 5 p_).bind fun r417 =>
        some (.inr (.inr (0, r417.1, r417.2)))
      else
        letO (IntKind.wrap .i64 ((IntKind.wrap .i64 (10 * s389.n)) + (IntKind.wrap .i64 (IntKind.wrap .u8 ((bix p_.s s389.i) - 48))))) fun x420 =>
        if most < x420 then
          (parse.parser.dies over p_).bind fun r421 =>
          some (.inr (.inr (0, r421.1, r421.2)))
        else
          some (.inl ⟨x420, IntKind.wrap .i64 (s389.i + 1)⟩)
  else
    some (.inr (.inl ()))

noncomputable def parse.parser.header.loop0 (p_ : parse.parser) (most : Int) (over : Int) (s389 : parse.parser.header.S0) : Option (Unit ⊕ (Int × Bool × parse.parser)) := whileO (parse.parser.header.body0 p_ most over) s389

noncomputable def parse.parser.header (mark : Int) (most : Int) (over : Int) (p_ : parse.parser) : Option (Int × Bool × parse.parser) :=
  if p_.s = ([] : List UInt8) then
    some (0, false, p_)
  else
    need (InB 0 p_.s.length) <|
    if (bix p_.s 0) = mark then
      (parse.parser.header.loop0 p_ most over ⟨0, 1⟩).bind fun s428 => onSum s428 (fun s320 =>
        some (0, false, p_)) fun s428x => some s428x
    else
      (parse.parser.dies 5 p_).bind fun r215 =>
      some (0, r215.1, r215.2)

noncomputable def stringslite.IndexByte (s_ : List UInt8) (c_ : Int) : Option Int :=
  some (Lib.indexByte s_ (u8 c_))

noncomputable def strings.IndexByte (s_ : List UInt8) (c_ : Int) : Option Int :=
  (stringslite.IndexByte s_ c_).bind fun r2 =>
  some r2

noncomputable def stringslite.HasSuffix (s_ : List UInt8) (suffix : List UInt8) : Option Bool :=
  (
    if (suffix.length : Int) ≤ (s_.length : Int) then
      need (InR (IntKind.wrap .i64 ((s_.length : Int) - (suffix.length : Int))) (s_.length : Int) s_.length) <|
      some (decide ((sub s_ (IntKind.wrap .i64 ((s_.length : Int) - (suffix.length : Int))) (s_.length : Int)) = suffix))
    else
      some false).bind fun s10 =>
  some s10

noncomputable def stringslite.TrimSuffix (s_ : List UInt8) (suffix : List UInt8) : Option (List UInt8) :=
  (stringslite.HasSuffix s_ suffix).bind fun r4 =>
  if r4 = true then
    need (InR 0 (IntKind.wrap .i64 ((s_.length : Int) - (suffix.length : Int))) s_.length) <|
    some (sub s_ 0 (IntKind.wrap .i64 ((s_.length : Int) - (suffix.length : Int))))
  else
    some s_

noncomputable def strings.TrimSuffix (s_ : List UInt8) (suffix : List UInt8) : Option (List UInt8) :=
  (stringslite.TrimSuffix s_ suffix).bind fun r2 =>
  some r2

noncomputable def line.blank (c_ : Int) : Option Bool :=
  letO (
    if c_ = 32 then
      true
    else
      decide (c_ = 9)) fun s7 =>
  some s7

noncomputable def line.quoted_1 (i : Int) (a1_ : List UInt8) : Option Bool :=
  (
    if i = (a1_.length : Int) then
      some true
    else
      need (InB i a1_.length) <|
      (line.blank (bix a1_ i)).bind fun r18 =>
      some r18).bind fun s13 =>
  some s13

noncomputable def line.hex (c_ : Int) : Option Int :=
  letO (
    if 48 ≤ c_ then
      decide (c_ ≤ 57)
    else
      false) fun s20 =>
  if s20 = true then
    some (IntKind.wrap .i64 (IntKind.wrap .u8 (c_ - 48)))
  else
    letO (
      if 97 ≤ c_ then
        decide (c_ ≤ 102)
      else
        false) fun s25 =>
    if s25 = true then
      some (IntKind.wrap .i64 ((IntKind.wrap .i64 (IntKind.wrap .u8 (c_ - 97))) + 10))
    else
      letO (
        if 65 ≤ c_ then
          decide (c_ ≤ 70)
        else
          false) fun s30 =>
      if s30 = true then
        some (IntKind.wrap .i64 ((IntKind.wrap .i64 (IntKind.wrap .u8 (c_ - 65))) + 10))
      else
        some (-1)

noncomputable def line.turn (s_ : List UInt8) (at_ : Int) : Option (Int × Int) :=
  (
    need (InB at_ s_.length) <|
    if (bix s_ at_) = 120 then
      if (IntKind.wrap .i64 (at_ + 2)) < (s_.length : Int) then
        need (InB (IntKind.wrap .i64 (at_ + 1)) s_.length) <|
        (line.hex (bix s_ (IntKind.wrap .i64 (at_ + 1)))).bind fun r47 =>
        if 0 ≤ r47 then
          need (InB (IntKind.wrap .i64 (at_ + 2)) s_.length) <|
          (line.hex (bix s_ (IntKind.wrap .i64 (at_ + 2)))).bind fun r50 =>
          some (decide (0 ≤ r50))
        else
          some false
      else
        some false
    else
      some false).bind fun s40 =>
  if s40 = true then
    need (InB (IntKind.wrap .i64 (at_ + 1)) s_.length) <|
    (line.hex (bix s_ (IntKind.wrap .i64 (at_ + 1)))).bind fun r52 =>
    need (InB (IntKind.wrap .i64 (at_ + 2)) s_.length) <|
    (line.hex (bix s_ (IntKind.wrap .i64 (at_ + 2)))).bind fun r54 =>
    some (IntKind.wrap .u8 (IntKind.wrap .i64 ((IntKind.wrap .i64 (16 * r52)) + r54)), IntKind.wrap .i64 (at_ + 3))
  else
    need (InB at_ s_.length) <|
    if (bix s_ at_) = 110 then
      some (10, IntKind.wrap .i64 (at_ + 1))
    else
      if (bix s_ at_) = 114 then
        some (13, IntKind.wrap .i64 (at_ + 1))
      else
        if (bix s_ at_) = 116 then
          some (9, IntKind.wrap .i64 (at_ + 1))
        else
          if (bix s_ at_) = 98 then
            some (8, IntKind.wrap .i64 (at_ + 1))
          else
            if (bix s_ at_) = 97 then
              some (7, IntKind.wrap .i64 (at_ + 1))
            else
              need (InB at_ s_.length) <|
              some (bix s_ at_, IntKind.wrap .i64 (at_ + 1))

structure line.quoted.S0 where
  at_ : Int
  b : List UInt8

noncomputable def line.quoted.body0 (s_ : List UInt8) (mark : Int) (s414 : line.quoted.S0) : Option (line.quoted.S0 ⊕ (Int ⊕ ((List UInt8) × Int × Bool))) :=
  if s414.at_ < (s_.length : Int) then
    need (InB s414.at_ s_.length) <|
    if (bix s_ s414.at_) = mark then
      (line.quoted_1 (IntKind.wrap .i64 (s414.at_ + 1)) s_).bind fun r420 =>
      some (.inr (.inr (s414.b, IntKind.wrap .i64 (s414.at_ + 1), r420)))
    else
      letO (
        if (bix s_ s414.at_) = 92 then
          if mark = 34 then
            decide ((IntKind.wrap .i64 (s414.at_ + 1)) < (s_.length : Int))
          else
            false
        else
          false) fun s423 =>
      if s423 = true then
        (line.turn s_ (IntKind.wrap .i64 (s414.at_ + 1))).bind fun r428 =>
        need (IsU8 r428.1) <|
        need ((s414.b.length + [u8 r428.1].length) * 1 ≤ 140737488355328) <|
        some (.inl ⟨r428.2, s414.b ++ [u8 r428.1]⟩)
      else
        (
          if (bix s_ s414.at_) = 92 then
            if mark = 39 then
              if (IntKind.wrap .i64 (s414.at_ + 1)) < (s_.length : Int) then
                need (InB (IntKind.wrap .i64 (s414.at_ + 1)) s_.length) <|
                some (decide ((bix s_ (IntKind.wrap .i64 (s414.at_ + 1))) = mark))
              else
                some false
            else
              some false
          else
            some false).bind fun s436 =>
        if s436 = true then
          need (IsU8 mark) <|
          need ((s414.b.length + [u8 mark].length) * 1 ≤ 140737488355328) <|
          some (.inl ⟨IntKind.wrap .i64 (s414.at_ + 2), s414.b ++ [u8 mark]⟩)
        else
          need (IsU8 (bix s_ s414.at_)) <|
          need ((s414.b.length + [u8 (bix s_ s414.at_)].length) * 1 ≤ 140737488355328) <|
          some (.inl ⟨IntKind.wrap .i64 (s414.at_ + 1), s414.b ++ [u8 (bix s_ s414.at_)]⟩)
  else
    some (.inr (.inl s414.at_))

noncomputable def line.quoted.loop0 (s_ : List UInt8) (mark : Int) (s414 : line.quoted.S0) : Option (Int ⊕ ((List UInt8) × Int × Bool)) := whileO (line.quoted.body0 s_ mark) s414

noncomputable def line.quoted (s_ : List UInt8) (at_ : Int) (mark : Int) : Option ((List UInt8) × Int × Bool) :=
  (line.quoted.loop0 s_ mark ⟨at_, ([] : List UInt8)⟩).bind fun s455 => onSum s455 (fun s340 =>
    some (([] : List UInt8), s340, false)) fun s455x => some s455x

structure line.Split.S0 where
  out : List (List UInt8)
  at_ : Int

structure line.Split.S2 where
  at_ : Int

noncomputable def line.Split.body2 (s_ : List UInt8) (s1484 : line.Split.S2) : Option (line.Split.S2 ⊕ Int) :=
  (
    if s1484.at_ < (s_.length : Int) then
      need (InB s1484.at_ s_.length) <|
      (line.blank (bix s_ s1484.at_)).bind fun r1496 =>
      some r1496
    else
      some false).bind fun s1491 =>
  if s1491 = true then
    some (.inl ⟨IntKind.wrap .i64 (s1484.at_ + 1)⟩)
  else
    some (.inr s1484.at_)

noncomputable def line.Split.loop2 (s_ : List UInt8) (s1484 : line.Split.S2) : Option Int := whileO (line.Split.body2 s_) s1484

structure line.Split.S4 where
  at_ : Int
  b : List UInt8

noncomputable def line.Split.body4 (s_ : List UInt8) (s1664 : line.Split.S4) : Option (line.Split.S4 ⊕ ((Int × (List UInt8)) ⊕ (line.Split.S0 ⊕ ((List (List UInt8)) × Bool)))) :=
  (
    if s1664.at_ < (s_.length : Int) then
      need (InB s1664.at_ s_.length) <|
      (line.blank (bix s_ s1664.at_)).bind fun r1677 =>
      some (!r1677)
    else
      some false).bind fun s1672 =>
  if s1672 = true then
    (
      need (InB s1664.at_ s_.length) <|
      if (bix s_ s1664.at_) = 34 then
        some false
      else
        need (InB s1664.at_ s_.length) <|
        some (!decide ((bix s_ s1664.at_) = 39))).bind fun s1681 =>
    if s1681 = true then
      need (InB s1664.at_ s_.length) <|
      need (IsU8 (bix s_ s1664.at_)) <|
      need ((s1664.b.length + [u8 (bix s_ s1664.at_)].length) * 1 ≤ 140737488355328) <|
      some (.inl ⟨IntKind.wrap .i64 (s1664.at_ + 1), s1664.b ++ [u8 (bix s_ s1664.at_)]⟩)
    else
      need (InB s1664.at_ s_.length) <|
      (line.quoted s_ (IntKind.wrap .i64 (s1664.at_ + 1)) (bix s_ s1664.at_)).bind fun r1692 =>
      if (!r1692.2.2) = true then
        some (.inr (.inr (.inr (([] : List (List UInt8)), false))))
      else
        need ((s1664.b.length + r1692.1.length) * 1 ≤ 140737488355328) <|
        some (.inl ⟨r1692.2.1, s1664.b ++ r1692.1⟩)
  else
    some (.inr (.inl (s1664.at_, s1664.b)))

noncomputable def line.Split.loop4 (s_ : List UInt8) (s1664 : line.Split.S4) : Option ((Int × (List UInt8)) ⊕ (line.Split.S0 ⊕ ((List (List UInt8)) × Bool))) := whileO (line.Split.body4 s_) s1664

noncomputable def line.Split.body0 (s_ : List UInt8) (s1418 : line.Split.S0) : Option (line.Split.S0 ⊕ ((List (List UInt8)) × Bool)) :=
  (line.Split.loop2 s_ ⟨s1418.at_⟩).bind fun s1459 =>
  if s1459 = (s_.length : Int) then
    some (.inr (s1418.out, true))
  else
    (line.Split.loop4 s_ ⟨s1459, ([] : List UInt8)⟩).bind fun s1703 => onSum s1703 (fun s1597 =>
      need ((s1418.out.length + [s1597.2].length) * 16 ≤ 140737488355328) <|
      some (.inl ⟨s1418.out ++ [s1597.2], s1597.1⟩)) fun s1703x => some s1703x

noncomputable def line.Split.loop0 (s_ : List UInt8) (s1418 : line.Split.S0) : Option ((List (List UInt8)) × Bool) := whileO (line.Split.body0 s_) s1418

noncomputable def line.Split (s_ : List UInt8) : Option ((List (List UInt8)) × Bool) :=
  line.Split.loop0 s_ ⟨([] : List (List UInt8)), 0⟩

noncomputable def parse.parser.line_1 (s_ : List UInt8) (b1_ : parse.parser) : Option Bool :=
  some (decide (b1_.l.Bulk < (s_.length : Int)))

structure slices.IndexFunc_string_parse_parser_line_1.S0 where
  t8 : Int

noncomputable def slices.IndexFunc_string_parse_parser_line_1.body0 (s_ : List (List UInt8)) (b1_ : parse.parser) (s112 : slices.IndexFunc_string_parse_parser_line_1.S0) : Option (slices.IndexFunc_string_parse_parser_line_1.S0 ⊕ (Unit ⊕ Int)) :=
  if s112.t8 < (s_.length : Int) then
    need (InB s112.t8 s_.length) <|
    (parse.parser.line_1 (ix s_ s112.t8) b1_).bind fun r119 =>
    if r119 = true then
      some (.inr (.inr s112.t8))
    else
      some (.inl ⟨IntKind.wrap .i64 (s112.t8 + 1)⟩)
  else
    some (.inr (.inl ()))

noncomputable def slices.IndexFunc_string_parse_parser_line_1.loop0 (s_ : List (List UInt8)) (b1_ : parse.parser) (s112 : slices.IndexFunc_string_parse_parser_line_1.S0) : Option (Unit ⊕ Int) := whileO (slices.IndexFunc_string_parse_parser_line_1.body0 s_ b1_) s112

noncomputable def slices.IndexFunc_string_parse_parser_line_1 (s_ : List (List UInt8)) (b1_ : parse.parser) : Option Int :=
  (slices.IndexFunc_string_parse_parser_line_1.loop0 s_ b1_ ⟨0⟩).bind fun s124 => onSum s124 (fun s91 =>
    some (-1)) fun s124x => some s124x

noncomputable def slices.ContainsFunc_string_parse_parser_line_1 (s_ : List (List UInt8)) (b1_ : parse.parser) : Option Bool :=
  (slices.IndexFunc_string_parse_parser_line_1 s_ b1_).bind fun r4 =>
  some (decide (0 ≤ r4))

noncomputable def parse.parser.line (p_ : parse.parser) : Option (Bool × parse.parser) :=
  (strings.IndexByte p_.s 10).bind fun r36 =>
  letO (
    if r36 < 0 then
      if p_.l.Line < (p_.s.length : Int) then
        true
      else
        decide (p_.l.Line < r36)
    else
      decide (p_.l.Line < r36)) fun s39 =>
  if s39 = true then
    (parse.parser.dies 6 p_).bind fun r44 =>
    some (r44.1, r44.2)
  else
    if r36 < 0 then
      some (false, p_)
    else
      need (InR 0 r36 p_.s.length) <|
      (strings.TrimSuffix (sub p_.s 0 r36) [13]).bind fun r48 =>
      (line.Split r48).bind fun r49 =>
      if (!r49.2) = true then
        (parse.parser.dies 16 p_).bind fun r51 =>
        some (r51.1, r51.2)
      else
        if p_.l.Args < (r49.1.length : Int) then
          (parse.parser.dies 7 p_).bind fun r54 =>
          some (r54.1, r54.2)
        else
          (slices.ContainsFunc_string_parse_parser_line_1 r49.1 p_).bind fun r57 =>
          if r57 = true then
            (parse.parser.dies 6 p_).bind fun r60 =>
            some (r60.1, r60.2)
          else
            (parse.parser.past (IntKind.wrap .i64 (r36 + 1)) p_).bind fun r63 =>
            (parse.parser.whole r49.1 r63).bind fun r66 =>
            some (true, r66)

noncomputable def parse.parser.step (p_ : parse.parser) : Option (Bool × parse.parser) :=
  if p_.in_.Body = true then
    (parse.parser.body p_).bind fun r50 =>
    some (r50.1, r50.2)
  else
    if 0 < p_.in_.Left then
      (parse.parser.header 36 p_.l.Bulk 6 p_).bind fun r53 =>
      letO (
        if r53.2.1 = true then
          (true, r53.1)
        else
          (r53.2.2.in_.Body, r53.2.2.in_.Need)) fun s57 =>
      some (r53.2.1, { r53.2.2 with in_ := { r53.2.2.in_ with Body := s57.1, Need := s57.2 } })
    else
      if p_.s = ([] : List UInt8) then
        some (false, p_)
      else
        need (InB 0 p_.s.length) <|
        if (bix p_.s 0) = 42 then
          (parse.parser.header 42 p_.l.Args 7 p_).bind fun r65 =>
          letO (
            if r65.2.1 = true then
              r65.1
            else
              r65.2.2.in_.Left) fun s69 =>
          (
            letO (
              if r65.2.1 = true then
                decide (r65.1 = 0)
              else
                false) fun s87 =>
            if s87 = true then
              (parse.parser.whole ([] : List (List UInt8)) { r65.2.2 with in_ := { r65.2.2.in_ with Left := s69 } }).bind fun r91 =>
              some (r91.in_.Rest, r91.in_.Args, r91.in_.Left, r91.in_.Size, r91.in_.Body, r91.in_.Need, r91.in_.Dead, r91.s, r91.l.Args, r91.l.Bulk, r91.l.Line, r91.out)
            else
              some (r65.2.2.in_.Rest, r65.2.2.in_.Args, s69, r65.2.2.in_.Size, r65.2.2.in_.Body, r65.2.2.in_.Need, r65.2.2.in_.Dead, r65.2.2.s, r65.2.2.l.Args, r65.2.2.l.Bulk, r65.2.2.l.Line, r65.2.2.out)).bind fun s81 =>
          some (r65.2.1, ({ in_ := ({ Rest := s81.1, Args := s81.2.1, Left := s81.2.2.1, Size := s81.2.2.2.1, Body := s81.2.2.2.2.1, Need := s81.2.2.2.2.2.1, Dead := s81.2.2.2.2.2.2.1 } : api.Input), s := s81.2.2.2.2.2.2.2.1, l := ({ Args := s81.2.2.2.2.2.2.2.2.1, Bulk := s81.2.2.2.2.2.2.2.2.2.1, Line := s81.2.2.2.2.2.2.2.2.2.2.1 } : api.Limits), out := s81.2.2.2.2.2.2.2.2.2.2.2 } : parse.parser))
        else
          (parse.parser.line p_).bind fun r62 =>
          some (r62.1, r62.2)

structure parse.Feed.S0 where
  c : List UInt8
  c2 : List (List UInt8)
  c3 : Int
  c4 : Int
  c5 : Bool
  c6 : Int
  c7 : Int
  c8 : List UInt8
  c9 : Int
  c10 : Int
  c11 : Int
  c12 : List api.Request

noncomputable def parse.Feed.body0 (in_ : api.Input) (l : api.Limits) (s115 : parse.Feed.S0) : Option (parse.Feed.S0 ⊕ ((List UInt8) × (List (List UInt8)) × Int × Int × Bool × Int × Int × (List UInt8) × Int × Int × Int × (List api.Request))) :=
  (parse.parser.step ({ in_ := ({ Rest := s115.c, Args := s115.c2, Left := s115.c3, Size := s115.c4, Body := s115.c5, Need := s115.c6, Dead := s115.c7 } : api.Input), s := s115.c8, l := ({ Args := s115.c9, Bulk := s115.c10, Line := s115.c11 } : api.Limits), out := s115.c12 } : parse.parser)).bind fun r121 =>
  if r121.1 = true then
    some (.inl ⟨r121.2.in_.Rest, r121.2.in_.Args, r121.2.in_.Left, r121.2.in_.Size, r121.2.in_.Body, r121.2.in_.Need, r121.2.in_.Dead, r121.2.s, r121.2.l.Args, r121.2.l.Bulk, r121.2.l.Line, r121.2.out⟩)
  else
    some (.inr (r121.2.in_.Rest, r121.2.in_.Args, r121.2.in_.Left, r121.2.in_.Size, r121.2.in_.Body, r121.2.in_.Need, r121.2.in_.Dead, r121.2.s, r121.2.l.Args, r121.2.l.Bulk, r121.2.l.Line, r121.2.out))

noncomputable def parse.Feed.loop0 (in_ : api.Input) (l : api.Limits) (s115 : parse.Feed.S0) : Option ((List UInt8) × (List (List UInt8)) × Int × Int × Bool × Int × Int × (List UInt8) × Int × Int × Int × (List api.Request)) := whileO (parse.Feed.body0 in_ l) s115

noncomputable def parse.Feed (in_ : api.Input) (b : List UInt8) (l : api.Limits) : Option (api.Input × (List api.Request) × Int) :=
  if in_.Dead = 0 then
    need (in_.Rest.length + b.length ≤ 9223372036854775807) <|
    (parse.Limits l).bind fun r69 =>
    (slices.Clone_string in_.Args).bind fun r71 =>
    (parse.Feed.loop0 in_ l ⟨([] : List UInt8), r71, in_.Left, in_.Size, in_.Body, in_.Need, in_.Dead, in_.Rest ++ b, r69.Args, r69.Bulk, r69.Line, ([] : List api.Request)⟩).bind fun s97 =>
    (strings.Clone s97.2.2.2.2.2.2.2.1).bind fun r126 =>
    some (({ Rest := r126, Args := s97.2.1, Left := s97.2.2.1, Size := s97.2.2.2.1, Body := s97.2.2.2.2.1, Need := s97.2.2.2.2.2.1, Dead := s97.2.2.2.2.2.2.1 } : api.Input), s97.2.2.2.2.2.2.2.2.2.2.2, s97.2.2.2.2.2.2.1)
  else
    some (({ Rest := ([] : List UInt8), Args := ([] : List (List UInt8)), Left := 0, Size := 0, Body := false, Need := 0, Dead := in_.Dead } : api.Input), ([] : List api.Request), in_.Dead)

structure mewslaw43.far.S0 where
  n : Int
  t8 : Int

noncomputable def mewslaw43.far.body0 (l : List mewslaw43.Op) (s72 : mewslaw43.far.S0) : Option (mewslaw43.far.S0 ⊕ (Unit ⊕ Bool)) :=
  if s72.t8 < (l.length : Int) then
    need (InB s72.t8 l.length) <|
    if 3000 < (IntKind.wrap .i64 (s72.n + (IntKind.wrap .i64 (1 + (if 10000 < ((ix l s72.t8).S.length : Int) then 10000 else ((ix l s72.t8).S.length : Int)))))) then
      some (.inr (.inr true))
    else
      some (.inl ⟨IntKind.wrap .i64 (s72.n + (IntKind.wrap .i64 (1 + (if 10000 < ((ix l s72.t8).S.length : Int) then 10000 else ((ix l s72.t8).S.length : Int))))), IntKind.wrap .i64 (s72.t8 + 1)⟩)
  else
    some (.inr (.inl ()))

noncomputable def mewslaw43.far.loop0 (l : List mewslaw43.Op) (s72 : mewslaw43.far.S0) : Option (Unit ⊕ Bool) := whileO (mewslaw43.far.body0 l) s72

noncomputable def mewslaw43.far (l : List mewslaw43.Op) : Option Bool :=
  (mewslaw43.far.loop0 l ⟨0, 0⟩).bind fun s80 => onSum s80 (fun s59 =>
    some false) fun s80x => some s80x

noncomputable def conn.Open (now : Int) : Option api.Conn :=
  some ({ Born := now, Tenant := (-1), In := ({ Rest := ([] : List UInt8), Args := ([] : List (List UInt8)), Left := 0, Size := 0, Body := false, Need := 0, Dead := 0 } : api.Input), Asked := 0, Held := ([] : List api.Held), Out := ([] : List UInt8), Taken := 0, Shut := false, Closed := false } : api.Conn)

noncomputable def slices.Clone_api_Held (s : List api.Held) : Option (List api.Held) :=
  need ((([] : List api.Held).length + s.length) * 24 ≤ 140737488355328) <|
  some s

structure conn.Free.S0 where
  n : Int
  c : List UInt8

noncomputable def conn.Free.body0 (c_ : api.Conn) (durable : Int) (s98 : conn.Free.S0) : Option (conn.Free.S0 ⊕ (Int × (List UInt8))) :=
  if s98.n < (c_.Held.length : Int) then
    need (InB s98.n c_.Held.length) <|
    if durable < (ix c_.Held s98.n).Need then
      some (.inr (s98.n, s98.c))
    else
      need (s98.c.length + (ix c_.Held s98.n).S.length ≤ 9223372036854775807) <|
      some (.inl ⟨IntKind.wrap .i64 (s98.n + 1), s98.c ++ (ix c_.Held s98.n).S⟩)
  else
    some (.inr (s98.n, s98.c))

noncomputable def conn.Free.loop0 (c_ : api.Conn) (durable : Int) (s98 : conn.Free.S0) : Option (Int × (List UInt8)) := whileO (conn.Free.body0 c_ durable) s98

noncomputable def conn.Free (c_ : api.Conn) (durable : Int) : Option api.Conn :=
  (conn.Free.loop0 c_ durable ⟨0, c_.Out⟩).bind fun s83 =>
  need (InR s83.1 (c_.Held.length : Int) c_.Held.length) <|
  (slices.Clone_api_Held (sub c_.Held s83.1 (c_.Held.length : Int))).bind fun r108 =>
  letO (
    if c_.Closed = true then
      true
    else
      if c_.Shut = true then
        if c_.Asked = 0 then
          decide ((r108.length : Int) = 0)
        else
          false
      else
        false) fun s113 =>
  some { c_ with Held := r108, Out := s83.2, Closed := s113 }

structure conn.Pending.S0 where
  n : Int
  t12 : Int

noncomputable def conn.Pending.body0 (c_ : api.Conn) (s62 : conn.Pending.S0) : Option (conn.Pending.S0 ⊕ Int) :=
  if s62.t12 < (c_.Held.length : Int) then
    need (InB s62.t12 c_.Held.length) <|
    some (.inl ⟨IntKind.wrap .i64 (s62.n + ((ix c_.Held s62.t12).S.length : Int)), IntKind.wrap .i64 (s62.t12 + 1)⟩)
  else
    some (.inr s62.n)

noncomputable def conn.Pending.loop0 (c_ : api.Conn) (s62 : conn.Pending.S0) : Option Int := whileO (conn.Pending.body0 c_) s62

noncomputable def conn.Pending (c_ : api.Conn) : Option Int :=
  (conn.Pending.loop0 c_ ⟨(c_.Out.length : Int), 0⟩).bind fun s51 =>
  some s51

noncomputable def conn.Say (c_ : api.Conn) (s_ : List UInt8) (need_ : Int) (durable : Int) (t_ : api.Tenant) : Option api.Conn :=
  if c_.Closed = true then
    some c_
  else
    (slices.Clone_api_Held c_.Held).bind fun r23 =>
    need ((r23.length + [({ Need := need_, S := s_ } : api.Held)].length) * 24 ≤ 140737488355328) <|
    (conn.Free { c_ with Held := r23 ++ [({ Need := need_, S := s_ } : api.Held)] } durable).bind fun r27 =>
    (
      (conn.Pending r27).bind fun r35 =>
      if t_.Out < r35 then
        some (([] : List api.Held), ([] : List UInt8), true)
      else
        some (r27.Held, r27.Out, r27.Closed)).bind fun s31 =>
    some { r27 with Held := s31.1, Out := s31.2.1, Closed := s31.2.2 }

noncomputable def conn.Take (c_ : api.Conn) (n_ : Int) : Option (api.Conn × (List UInt8)) :=
  need (InR 0 (if (c_.Out.length : Int) < (if n_ < 0 then 0 else n_) then (c_.Out.length : Int) else (if n_ < 0 then 0 else n_)) c_.Out.length) <|
  need (InR (if (c_.Out.length : Int) < (if n_ < 0 then 0 else n_) then (c_.Out.length : Int) else (if n_ < 0 then 0 else n_)) (c_.Out.length : Int) c_.Out.length) <|
  some ({ c_ with Out := sub c_.Out (if (c_.Out.length : Int) < (if n_ < 0 then 0 else n_) then (c_.Out.length : Int) else (if n_ < 0 then 0 else n_)) (c_.Out.length : Int), Taken := IntKind.wrap .i64 (c_.Taken + (if (c_.Out.length : Int) < (if n_ < 0 then 0 else n_) then (c_.Out.length : Int) else (if n_ < 0 then 0 else n_))) }, sub c_.Out 0 (if (c_.Out.length : Int) < (if n_ < 0 then 0 else n_) then (c_.Out.length : Int) else (if n_ < 0 then 0 else n_)))

structure conn.Read.S0 where
  t36 : Int
  c : Int

noncomputable def conn.Read.body0 (r76 : api.Input × (List api.Request) × Int) (s105 : conn.Read.S0) : Option (conn.Read.S0 ⊕ Int) :=
  if s105.t36 < (r76.2.1.length : Int) then
    need (InB s105.t36 r76.2.1.length) <|
    some (.inl ⟨IntKind.wrap .i64 (s105.t36 + 1), IntKind.wrap .i64 (s105.c + (ix r76.2.1 s105.t36).Size)⟩)
  else
    some (.inr s105.c)

noncomputable def conn.Read.loop0 (r76 : api.Input × (List api.Request) × Int) (s105 : conn.Read.S0) : Option Int := whileO (conn.Read.body0 r76) s105

noncomputable def conn.Read (c_ : api.Conn) (s_ : List UInt8) (t_ : api.Tenant) : Option (api.Conn × (List api.Request) × (List UInt8)) :=
  letO (
    if c_.Shut = true then
      true
    else
      c_.Closed) fun s71 =>
  if s71 = true then
    some (c_, ([] : List api.Request), ([] : List UInt8))
  else
    (parse.Feed c_.In s_ t_.Limits).bind fun r76 =>
    (conn.Read.loop0 r76 ⟨0, c_.Asked⟩).bind fun s94 =>
    letO (
      if r76.2.2 = 0 then
        letO (
          if t_.In < s94 then
            true
          else
            if (IntKind.wrap .i64 (t_.In - s94)) < r76.1.Size then
              true
            else
              decide ((IntKind.wrap .i64 ((IntKind.wrap .i64 (t_.In - s94)) - r76.1.Size)) < (r76.1.Rest.length : Int))) fun s126 =>
        if s126 = true then
          [69, 82, 82, 32, 105, 110, 112, 117, 116, 32, 98, 117, 102, 102, 101, 114, 32, 105, 115, 32, 102, 117, 108, 108]
        else
          ([] : List UInt8)
      else
        [69, 82, 82, 32, 80, 114, 111, 116, 111, 99, 111, 108, 32, 101, 114, 114, 111, 114]) fun s121 =>
    some ({ c_ with In := r76.1, Asked := s94, Shut := (!decide (s121 = ([] : List UInt8))) }, r76.2.1, s121)

noncomputable def mewslaw43.alive  : Option Bool :=
  (conn.Open 7).bind fun r31 =>
  (conn.Say r31 [97] 2 0 ({ Name := ([] : List UInt8), Token := ([] : List UInt8), Memory := 0, Policy := 0, Conns := 0, In := 100, Out := 100, Burst := 0, Rate := 0, Disk := 0, Sync := 0, Limits := ({ Args := 9, Bulk := 9, Line := 9 } : api.Limits) } : api.Tenant)).bind fun r32 =>
  (conn.Say r32 [98] 0 0 ({ Name := ([] : List UInt8), Token := ([] : List UInt8), Memory := 0, Policy := 0, Conns := 0, In := 100, Out := 100, Burst := 0, Rate := 0, Disk := 0, Sync := 0, Limits := ({ Args := 9, Bulk := 9, Line := 9 } : api.Limits) } : api.Tenant)).bind fun r33 =>
  (conn.Free r33 2).bind fun r35 =>
  (conn.Take r35 9).bind fun r37 =>
  (conn.Open 7).bind fun r39 =>
  (conn.Read r39 [71, 69, 84, 32, 97, 10, 120] ({ Name := ([] : List UInt8), Token := ([] : List UInt8), Memory := 0, Policy := 0, Conns := 0, In := 100, Out := 100, Burst := 0, Rate := 0, Disk := 0, Sync := 0, Limits := ({ Args := 9, Bulk := 9, Line := 9 } : api.Limits) } : api.Tenant)).bind fun r40 =>
  letO (
    if r33.Out = ([] : List UInt8) then
      if r37.2 = [97, 98] then
        if r37.1.Taken = 2 then
          if (r40.2.1.length : Int) = 1 then
            if r40.2.2 = ([] : List UInt8) then
              if r40.1.Asked = 6 then
                if r40.1.In.Rest = [120] then
                  decide (r40.1.Tenant = (-1))
                else
                  false
              else
                false
            else
              false
          else
            false
        else
          false
      else
        false
    else
      false) fun s49 =>
  some s49

structure mewslaw43.ConnOrder.S0 where
  said : List UInt8
  came : List UInt8
  durable : Int
  helds : List api.Held
  t28 : Int
  c : Int
  c2 : Int
  c3 : List UInt8
  c4 : List (List UInt8)
  c5 : Int
  c6 : Int
  c7 : Bool
  c8 : Int
  c9 : Int
  c10 : Int
  c11 : List api.Held
  c12 : List UInt8
  c13 : Int
  c14 : Bool
  c15 : Bool

structure mewslaw43.ConnOrder.S3 where
  safe : Int
  t103 : Int

noncomputable def mewslaw43.ConnOrder.body3 (s1209 : (List UInt8) × (List UInt8) × Int × (List api.Held) × Int × Int × (List UInt8) × (List (List UInt8)) × Int × Int × Bool × Int × Int × Int × (List api.Held) × (List UInt8) × Int × Bool × Bool) (s1276 : mewslaw43.ConnOrder.S3) : Option (mewslaw43.ConnOrder.S3 ⊕ Int) :=
  if s1276.t103 < (s1209.2.2.2.1.length : Int) then
    need (InB s1276.t103 s1209.2.2.2.1.length) <|
    if s1209.2.2.1 < (ix s1209.2.2.2.1 s1276.t103).Need then
      some (.inr s1276.safe)
    else
      some (.inl ⟨IntKind.wrap .i64 (s1276.safe + ((ix s1209.2.2.2.1 s1276.t103).S.length : Int)), IntKind.wrap .i64 (s1276.t103 + 1)⟩)
  else
    some (.inr s1276.safe)

noncomputable def mewslaw43.ConnOrder.loop3 (s1209 : (List UInt8) × (List UInt8) × Int × (List api.Held) × Int × Int × (List UInt8) × (List (List UInt8)) × Int × Int × Bool × Int × Int × Int × (List api.Held) × (List UInt8) × Int × Bool × Bool) (s1276 : mewslaw43.ConnOrder.S3) : Option Int := whileO (mewslaw43.ConnOrder.body3 s1209) s1276

noncomputable def mewslaw43.ConnOrder.body0 (l : List mewslaw43.Op) (out : Int) (s1181 : mewslaw43.ConnOrder.S0) : Option (mewslaw43.ConnOrder.S0 ⊕ (Unit ⊕ Bool)) :=
  if s1181.t28 < (l.length : Int) then
    need (InB s1181.t28 l.length) <|
    (
      if (ix l s1181.t28).Kind = 2 then
        (
          if (!s1181.c15) = true then
            need (s1181.said.length + (ix l s1181.t28).S.length ≤ 9223372036854775807) <|
            need ((s1181.helds.length + [({ Need := (ix l s1181.t28).N, S := (ix l s1181.t28).S } : api.Held)].length) * 24 ≤ 140737488355328) <|
            some (s1181.said ++ (ix l s1181.t28).S, s1181.helds ++ [({ Need := (ix l s1181.t28).N, S := (ix l s1181.t28).S } : api.Held)])
          else
            some (s1181.said, s1181.helds)).bind fun s1217 =>
        (conn.Say ({ Born := s1181.c, Tenant := s1181.c2, In := ({ Rest := s1181.c3, Args := s1181.c4, Left := s1181.c5, Size := s1181.c6, Body := s1181.c7, Need := s1181.c8, Dead := s1181.c9 } : api.Input), Asked := s1181.c10, Held := s1181.c11, Out := s1181.c12, Taken := s1181.c13, Shut := s1181.c14, Closed := s1181.c15 } : api.Conn) (ix l s1181.t28).S (ix l s1181.t28).N s1181.durable ({ Name := ([] : List UInt8), Token := ([] : List UInt8), Memory := 0, Policy := 0, Conns := 0, In := 0, Out := IntKind.wrap .i64 (out.tmod 200), Burst := 0, Rate := 0, Disk := 0, Sync := 0, Limits := ({ Args := 0, Bulk := 0, Line := 0 } : api.Limits) } : api.Tenant)).bind fun r1225 =>
        some (s1217.1, s1181.came, s1181.durable, s1217.2, r1225.Born, r1225.Tenant, r1225.In.Rest, r1225.In.Args, r1225.In.Left, r1225.In.Size, r1225.In.Body, r1225.In.Need, r1225.In.Dead, r1225.Asked, r1225.Held, r1225.Out, r1225.Taken, r1225.Shut, r1225.Closed)
      else
        if (ix l s1181.t28).Kind = 3 then
          (conn.Free ({ Born := s1181.c, Tenant := s1181.c2, In := ({ Rest := s1181.c3, Args := s1181.c4, Left := s1181.c5, Size := s1181.c6, Body := s1181.c7, Need := s1181.c8, Dead := s1181.c9 } : api.Input), Asked := s1181.c10, Held := s1181.c11, Out := s1181.c12, Taken := s1181.c13, Shut := s1181.c14, Closed := s1181.c15 } : api.Conn) (if s1181.durable < (ix l s1181.t28).M then (ix l s1181.t28).M else s1181.durable)).bind fun r1226 =>
          some (s1181.said, s1181.came, if s1181.durable < (ix l s1181.t28).M then (ix l s1181.t28).M else s1181.durable, s1181.helds, r1226.Born, r1226.Tenant, r1226.In.Rest, r1226.In.Args, r1226.In.Left, r1226.In.Size, r1226.In.Body, r1226.In.Need, r1226.In.Dead, r1226.Asked, r1226.Held, r1226.Out, r1226.Taken, r1226.Shut, r1226.Closed)
        else
          if (ix l s1181.t28).Kind = 4 then
            (conn.Take ({ Born := s1181.c, Tenant := s1181.c2, In := ({ Rest := s1181.c3, Args := s1181.c4, Left := s1181.c5, Size := s1181.c6, Body := s1181.c7, Need := s1181.c8, Dead := s1181.c9 } : api.Input), Asked := s1181.c10, Held := s1181.c11, Out := s1181.c12, Taken := s1181.c13, Shut := s1181.c14, Closed := s1181.c15 } : api.Conn) (ix l s1181.t28).N).bind fun r1228 =>
            need (s1181.came.length + r1228.2.length ≤ 9223372036854775807) <|
            some (s1181.said, s1181.came ++ r1228.2, s1181.durable, s1181.helds, r1228.1.Born, r1228.1.Tenant, r1228.1.In.Rest, r1228.1.In.Args, r1228.1.In.Left, r1228.1.In.Size, r1228.1.In.Body, r1228.1.In.Need, r1228.1.In.Dead, r1228.1.Asked, r1228.1.Held, r1228.1.Out, r1228.1.Taken, r1228.1.Shut, r1228.1.Closed)
          else
            some (s1181.said, s1181.came, s1181.durable, s1181.helds, s1181.c, s1181.c2, s1181.c3, s1181.c4, s1181.c5, s1181.c6, s1181.c7, s1181.c8, s1181.c9, s1181.c10, s1181.c11, s1181.c12, s1181.c13, s1181.c14, s1181.c15)).bind fun s1209 =>
    (
      (conn.Pending ({ Born := s1209.2.2.2.2.1, Tenant := s1209.2.2.2.2.2.1, In := ({ Rest := s1209.2.2.2.2.2.2.1, Args := s1209.2.2.2.2.2.2.2.1, Left := s1209.2.2.2.2.2.2.2.2.1, Size := s1209.2.2.2.2.2.2.2.2.2.1, Body := s1209.2.2.2.2.2.2.2.2.2.2.1, Need := s1209.2.2.2.2.2.2.2.2.2.2.2.1, Dead := s1209.2.2.2.2.2.2.2.2.2.2.2.2.1 } : api.Input), Asked := s1209.2.2.2.2.2.2.2.2.2.2.2.2.2.1, Held := s1209.2.2.2.2.2.2.2.2.2.2.2.2.2.2.1, Out := s1209.2.2.2.2.2.2.2.2.2.2.2.2.2.2.2.1, Taken := s1209.2.2.2.2.2.2.2.2.2.2.2.2.2.2.2.2.1, Shut := s1209.2.2.2.2.2.2.2.2.2.2.2.2.2.2.2.2.2.1, Closed := s1209.2.2.2.2.2.2.2.2.2.2.2.2.2.2.2.2.2.2 } : api.Conn)).bind fun r1241 =>
      if (IntKind.wrap .i64 (out.tmod 200)) < r1241 then
        some true
      else
        if (s1209.1.length : Int) < (s1209.2.1.length : Int) then
          some true
        else
          need (InR 0 (s1209.2.1.length : Int) s1209.1.length) <|
          some (!decide ((sub s1209.1 0 (s1209.2.1.length : Int)) = s1209.2.1))).bind fun s1238 =>
    if s1238 = true then
      some (.inr (.inr false))
    else
      (mewslaw43.ConnOrder.loop3 s1209 ⟨0, 0⟩).bind fun s1263 =>
      if s1263 < (IntKind.wrap .i64 ((s1209.2.1.length : Int) + (s1209.2.2.2.2.2.2.2.2.2.2.2.2.2.2.2.1.length : Int))) then
        some (.inr (.inr false))
      else
        some (.inl ⟨s1209.1, s1209.2.1, s1209.2.2.1, s1209.2.2.2.1, IntKind.wrap .i64 (s1181.t28 + 1), s1209.2.2.2.2.1, s1209.2.2.2.2.2.1, s1209.2.2.2.2.2.2.1, s1209.2.2.2.2.2.2.2.1, s1209.2.2.2.2.2.2.2.2.1, s1209.2.2.2.2.2.2.2.2.2.1, s1209.2.2.2.2.2.2.2.2.2.2.1, s1209.2.2.2.2.2.2.2.2.2.2.2.1, s1209.2.2.2.2.2.2.2.2.2.2.2.2.1, s1209.2.2.2.2.2.2.2.2.2.2.2.2.2.1, s1209.2.2.2.2.2.2.2.2.2.2.2.2.2.2.1, s1209.2.2.2.2.2.2.2.2.2.2.2.2.2.2.2.1, s1209.2.2.2.2.2.2.2.2.2.2.2.2.2.2.2.2.1, s1209.2.2.2.2.2.2.2.2.2.2.2.2.2.2.2.2.2.1, s1209.2.2.2.2.2.2.2.2.2.2.2.2.2.2.2.2.2.2⟩)
  else
    some (.inr (.inl ()))

noncomputable def mewslaw43.ConnOrder.loop0 (l : List mewslaw43.Op) (out : Int) (s1181 : mewslaw43.ConnOrder.S0) : Option (Unit ⊕ Bool) := whileO (mewslaw43.ConnOrder.body0 l out) s1181

noncomputable def mewslaw43.ConnOrder (out : Int) (l : List mewslaw43.Op) : Option Bool :=
  (mewslaw43.far l).bind fun r646 =>
  if r646 = true then
    (mewslaw43.alive).bind fun r647 =>
    some r647
  else
    (conn.Open 0).bind fun r649 =>
    (mewslaw43.ConnOrder.loop0 l out ⟨([] : List UInt8), ([] : List UInt8), 0, ([] : List api.Held), 0, r649.Born, r649.Tenant, r649.In.Rest, r649.In.Args, r649.In.Left, r649.In.Size, r649.In.Body, r649.In.Need, r649.In.Dead, r649.Asked, r649.Held, r649.Out, r649.Taken, r649.Shut, r649.Closed⟩).bind fun s1289 => onSum s1289 (fun s968 =>
      (mewslaw43.alive).bind fun r1288 =>
      some r1288) fun s1289x => some s1289x

end Go.Pu
