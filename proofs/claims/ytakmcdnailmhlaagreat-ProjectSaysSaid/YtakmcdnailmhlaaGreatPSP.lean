/- Printed by lift.py: the functions over data. -/
import Derived.Test.YtakmcdnailmhlaaGreatPST
set_option maxRecDepth 100000
set_option maxHeartbeats 0
noncomputable section
namespace Go.Pu
open Go.Lift

structure mewslaw46.Far.S0 where
 n : Int
 t10 : Int

def mewslaw46.Far.body0 (l : List api.Event) (s147 : mewslaw46.Far.S0) : Option (mewslaw46.Far.S0 ⊕ (Unit ⊕ Bool)) :=
 if s147.t10 < (l.length : Int) then
  need (InB s147.t10 l.length) <|
  letO (IntKind.wrap .i64 (s147.n + (IntKind.wrap .i64 ((IntKind.wrap .i64 (1 + (if 10000 < ((ix l s147.t10).S.length : Int) then 10000 else ((ix l s147.t10).S.length : Int)))) + ((ix l s147.t10).Lefts.length : Int))))) fun x153 =>
  letO (
   if 1500 < x153 then
    true
   else
    decide (300 < ((ix l s147.t10).Fault.Name.length : Int))) fun s155 =>
  if s155 = true then
   some (.inr (.inr true))
  else
   some (.inl ⟨x153, IntKind.wrap .i64 (s147.t10 + 1)⟩)
 else
  some (.inr (.inl ()))

def mewslaw46.Far.loop0 (l : List api.Event) (s147 : mewslaw46.Far.S0) : Option (Unit ⊕ Bool) := whileO (mewslaw46.Far.body0 l) s147

def mewslaw46.Far (c_ : api.Config) (l : List api.Event) : Option Bool :=
 (mewslaw46.Far.loop0 l ⟨0, 0⟩).bind fun s168 => onSum s168 (fun s122 =>
  letO (
   if 120 < (l.length : Int) then
    true
   else
    if 4 < (c_.Tenants.length : Int) then
     true
    else
     decide (50 < c_.Quantum)) fun s163 =>
  some s163) fun s168x => some s168x

def mewslaw46.Some  : Option api.Config :=
 some ({ Tenants := [({ Name := [97], Token := [115], Memory := 5000, Policy := 0, Conns := 3, In := 1000, Out := 1000, Burst := 50, Rate := 1, Disk := 5000, Sync := 1, Limits := ({ Args := 9, Bulk := 99, Line := 99 } : api.Limits) } : api.Tenant), ({ Name := [98], Token := [116], Memory := 5000, Policy := 0, Conns := 3, In := 1000, Out := 1000, Burst := 50, Rate := 1, Disk := 5000, Sync := 3, Limits := ({ Args := 9, Bulk := 99, Line := 99 } : api.Limits) } : api.Tenant)], Quantum := 2, Deadline := 100 } : api.Config)

structure script.Bytes.S0 where
 s : List UInt8
 open_ : Bool
 t11 : Int

def script.Bytes.body0 (l : List api.Event) (handle : Int) (s809 : script.Bytes.S0) : Option (script.Bytes.S0 ⊕ ((List UInt8) ⊕ (List UInt8))) :=
 if s809.t11 < (l.length : Int) then
  (
   need (InB s809.t11 l.length) <|
   letO (
    if s809.open_ = true then
     if (ix l s809.t11).Kind = 8 then
      true
     else
      if (ix l s809.t11).Kind = 4 then
       decide ((ix l s809.t11).Handle = handle)
      else
       false
    else
     false) fun s848 =>
   if s848 = true then
    some (.inr (.inr (.inr s809.s)))
   else
    letO (
     if (ix l s809.t11).Kind = 1 then
      decide ((ix l s809.t11).Handle = handle)
     else
      false) fun s855 =>
    if s855 = true then
     some (.inl (s809.s, true))
    else
     letO (
      if s809.open_ = true then
       if (ix l s809.t11).Kind = 2 then
        decide ((ix l s809.t11).Handle = handle)
       else
        false
      else
       false) fun s861 =>
     if s861 = true then
      need (s809.s.length + (ix l s809.t11).S.length ≤ 9223372036854775807) <|
      some (.inl (s809.s ++ (ix l s809.t11).S, s809.open_))
     else
      some (.inl (s809.s, s809.open_))).bind fun s870 => onSum s870 (fun s840 =>
   some (.inl ⟨s840.1, s840.2, IntKind.wrap .i64 (s809.t11 + 1)⟩)) fun s870x => some s870x
 else
  some (.inr (.inl s809.s))

def script.Bytes.loop0 (l : List api.Event) (handle : Int) (s809 : script.Bytes.S0) : Option ((List UInt8) ⊕ (List UInt8)) := whileO (script.Bytes.body0 l handle) s809

def script.Bytes (l : List api.Event) (handle : Int) : Option (List UInt8) :=
 (script.Bytes.loop0 l handle ⟨([] : List UInt8), false, 0⟩).bind fun s872 => onSum s872 (fun s653 =>
  some s653) fun s872x => some s872x

def auth.limits  : Option api.Limits :=
 some ({ Args := 16, Bulk := 1024, Line := 2048 } : api.Limits)

def parse.Limits (l : api.Limits) : Option api.Limits :=
 some ({ Args := if 65536 < (if l.Args < 1 then 1 else l.Args) then 65536 else (if l.Args < 1 then 1 else l.Args), Bulk := if 1048576 < (if l.Bulk < 1 then 1 else l.Bulk) then 1048576 else (if l.Bulk < 1 then 1 else l.Bulk), Line := if 65536 < (if l.Line < 1 then 1 else l.Line) then 65536 else (if l.Line < 1 then 1 else l.Line) } : api.Limits)

def slices.Clone_string (s : List (List UInt8)) : Option (List (List UInt8)) :=
 need ((([] : List (List UInt8)).length + s.length) * 16 ≤ 140737488355328) <|
 some s

def parse.parser.dies (e : Int) (p_ : parse.parser) : Option (Bool × parse.parser) :=
 some (false, { p_ with in_ := ({ Rest := ([] : List UInt8), Args := ([] : List (List UInt8)), Left := 0, Size := 0, Body := false, Need := 0, Dead := e } : api.Input), s := ([] : List UInt8) })

def stringslite.Clone (s : List UInt8) : Option (List UInt8) :=
 need (s.length ≤ 281474976710656) <|
 some s

def strings.Clone (s_ : List UInt8) : Option (List UInt8) :=
 (stringslite.Clone s_).bind fun r2 =>
 some r2

def parse.parser.past (n_ : Int) (p_ : parse.parser) : Option parse.parser :=
 need (InR n_ (p_.s.length : Int) p_.s.length) <|
 some { p_ with in_ := { p_.in_ with Size := IntKind.wrap .i64 (p_.in_.Size + n_) }, s := sub p_.s n_ (p_.s.length : Int) }

def parse.parser.whole (args : List (List UInt8)) (p_ : parse.parser) : Option parse.parser :=
 (
  if 0 < (args.length : Int) then
   need ((p_.out.length + [({ Args := args, Size := p_.in_.Size } : api.Request)].length) * 32 ≤ 140737488355328) <|
   some (p_.out ++ [({ Args := args, Size := p_.in_.Size } : api.Request)])
  else
   some p_.out).bind fun s14 =>
 some { p_ with in_ := ({ Rest := ([] : List UInt8), Args := ([] : List (List UInt8)), Left := 0, Size := 0, Body := false, Need := 0, Dead := 0 } : api.Input), out := s14 }

structure parse.parser.body.S0 where
 t11 : Int

def parse.parser.body.body0 (p_ : parse.parser) (s124 : parse.parser.body.S0) : Option (parse.parser.body.S0 ⊕ (Unit ⊕ (Bool × parse.parser))) :=
 if s124.t11 < 2 then
  if (IntKind.wrap .i64 ((p_.s.length : Int) - (if p_.in_.Need < 0 then 0 else p_.in_.Need))) ≤ s124.t11 then
   some (.inr (.inr (false, p_)))
  else
   need (InB (IntKind.wrap .i64 ((if p_.in_.Need < 0 then 0 else p_.in_.Need) + s124.t11)) p_.s.length) <|
   need (InB s124.t11 [13, 10].length) <|
   if (bix p_.s (IntKind.wrap .i64 ((if p_.in_.Need < 0 then 0 else p_.in_.Need) + s124.t11))) = (bix [13, 10] s124.t11) then
    some (.inl ⟨IntKind.wrap .i64 (s124.t11 + 1)⟩)
   else
    (parse.parser.dies 5 p_).bind fun r130 =>
    some (.inr (.inr (r130.1, r130.2)))
 else
  some (.inr (.inl ()))

def parse.parser.body.loop0 (p_ : parse.parser) (s124 : parse.parser.body.S0) : Option (Unit ⊕ (Bool × parse.parser)) := whileO (parse.parser.body.body0 p_) s124

def parse.parser.body (p_ : parse.parser) : Option (Bool × parse.parser) :=
 (parse.parser.body.loop0 p_ ⟨0⟩).bind fun s155 => onSum s155 (fun s105 =>
  need (InR 0 (if p_.in_.Need < 0 then 0 else p_.in_.Need) p_.s.length) <|
  (strings.Clone (sub p_.s 0 (if p_.in_.Need < 0 then 0 else p_.in_.Need))).bind fun r137 =>
  need ((p_.in_.Args.length + [r137].length) * 16 ≤ 140737488355328) <|
  (parse.parser.past (IntKind.wrap .i64 ((if p_.in_.Need < 0 then 0 else p_.in_.Need) + 2)) { p_ with in_ := ({ Rest := p_.in_.Rest, Args := p_.in_.Args ++ [r137], Left := IntKind.wrap .i64 (p_.in_.Left - 1), Size := p_.in_.Size, Body := false, Need := 0, Dead := p_.in_.Dead } : api.Input) }).bind fun r140 =>
  (
   if r140.in_.Left = 0 then
    (parse.parser.whole r140.in_.Args r140).bind fun r151 =>
    some (r151.in_.Rest, r151.in_.Args, r151.in_.Left, r151.in_.Size, r151.in_.Body, r151.in_.Need, r151.in_.Dead, r151.s, r151.l.Args, r151.l.Bulk, r151.l.Line, r151.out)
   else
    some (r140.in_.Rest, r140.in_.Args, r140.in_.Left, r140.in_.Size, r140.in_.Body, r140.in_.Need, r140.in_.Dead, r140.s, r140.l.Args, r140.l.Bulk, r140.l.Line, r140.out)).bind fun s146 =>
  some (true, ({ in_ := ({ Rest := s146.1, Args := s146.2.1, Left := s146.2.2.1, Size := s146.2.2.2.1, Body := s146.2.2.2.2.1, Need := s146.2.2.2.2.2.1, Dead := s146.2.2.2.2.2.2.1 } : api.Input), s := s146.2.2.2.2.2.2.2.1, l := ({ Args := s146.2.2.2.2.2.2.2.2.1, Bulk := s146.2.2.2.2.2.2.2.2.2.1, Line := s146.2.2.2.2.2.2.2.2.2.2.1 } : api.Limits), out := s146.2.2.2.2.2.2.2.2.2.2.2 } : parse.parser))) fun s155x => some s155x

structure parse.parser.header.S0 where
 n : Int
 i : Int

def parse.parser.header.body0 (p_ : parse.parser) (most : Int) (over : Int) (s389 : parse.parser.header.S0) : Option (parse.parser.header.S0 ⊕ (Unit ⊕ (Int × Bool × parse.parser))) :=
 if s389.i < (p_.s.length : Int) then
  need (InB s389.i p_.s.length) <|
  letO (
   if (bix p_.s s389.i) = 13 then
    decide (1 < s389.i)
   else
    false) fun s395 =>
  if s395 = true then
   if (IntKind.wrap .i64 (s389.i + 1)) = (p_.s.length : Int) then
    some (.inr (.inr (0, false, p_)))
   else
    need (InB (IntKind.wrap .i64 (s389.i + 1)) p_.s.length) <|
    if (bix p_.s (IntKind.wrap .i64 (s389.i + 1))) = 10 then
     (parse.parser.past (IntKind.wrap .i64 (s389.i + 2)) p_).bind fun r403 =>
     some (.inr (.inr (s389.n, true, r403)))
    else
     (parse.parser.dies 5 p_).bind fun r400 =>
     some (.inr (.inr (0, r400.1, r400.2)))
  else
   letO (
    if (bix p_.s s389.i) < 48 then
     true
    else
     if 57 < (bix p_.s s389.i) then
      true
     else
      if 1 < s389.i then
       decide (s389.n = 0)
      else
       false) fun s411 =>
   if s411 = true then
    (parse.parser.dies 5 p_).bind fun r417 =>
    some (.inr (.inr (0, r417.1, r417.2)))
   else
    letO (IntKind.wrap .i64 ((IntKind.wrap .i64 (10 * s389.n)) + (IntKind.wrap .i64 (IntKind.wrap .u8 ((bix p_.s s389.i) - 48))))) fun x420 =>
    if most < x420 then
     (parse.parser.dies over p_).bind fun r421 =>
     some (.inr (.inr (0, r421.1, r421.2)))
    else
     some (.inl ⟨x420, IntKind.wrap .i64 (s389.i + 1)⟩)
 else
  some (.inr (.inl ()))

def parse.parser.header.loop0 (p_ : parse.parser) (most : Int) (over : Int) (s389 : parse.parser.header.S0) : Option (Unit ⊕ (Int × Bool × parse.parser)) := whileO (parse.parser.header.body0 p_ most over) s389

def parse.parser.header (mark : Int) (most : Int) (over : Int) (p_ : parse.parser) : Option (Int × Bool × parse.parser) :=
 if p_.s = ([] : List UInt8) then
  some (0, false, p_)
 else
  need (InB 0 p_.s.length) <|
  if (bix p_.s 0) = mark then
   (parse.parser.header.loop0 p_ most over ⟨0, 1⟩).bind fun s428 => onSum s428 (fun s320 =>
    some (0, false, p_)) fun s428x => some s428x
  else
   (parse.parser.dies 5 p_).bind fun r215 =>
   some (0, r215.1, r215.2)

def stringslite.IndexByte (s_ : List UInt8) (c_ : Int) : Option Int :=
 some (Lib.indexByte s_ (u8 c_))

def strings.IndexByte (s_ : List UInt8) (c_ : Int) : Option Int :=
 (stringslite.IndexByte s_ c_).bind fun r2 =>
 some r2

def stringslite.HasSuffix (s_ : List UInt8) (suffix : List UInt8) : Option Bool :=
 (
  if (suffix.length : Int) ≤ (s_.length : Int) then
   need (InR (IntKind.wrap .i64 ((s_.length : Int) - (suffix.length : Int))) (s_.length : Int) s_.length) <|
   some (decide ((sub s_ (IntKind.wrap .i64 ((s_.length : Int) - (suffix.length : Int))) (s_.length : Int)) = suffix))
  else
   some false).bind fun s10 =>
 some s10

def stringslite.TrimSuffix (s_ : List UInt8) (suffix : List UInt8) : Option (List UInt8) :=
 (stringslite.HasSuffix s_ suffix).bind fun r4 =>
 if r4 = true then
  need (InR 0 (IntKind.wrap .i64 ((s_.length : Int) - (suffix.length : Int))) s_.length) <|
  some (sub s_ 0 (IntKind.wrap .i64 ((s_.length : Int) - (suffix.length : Int))))
 else
  some s_

def strings.TrimSuffix (s_ : List UInt8) (suffix : List UInt8) : Option (List UInt8) :=
 (stringslite.TrimSuffix s_ suffix).bind fun r2 =>
 some r2

def line.blank (c_ : Int) : Option Bool :=
 letO (
  if c_ = 32 then
   true
  else
   decide (c_ = 9)) fun s7 =>
 some s7

def line.quoted_1 (i : Int) (a1_ : List UInt8) : Option Bool :=
 (
  if i = (a1_.length : Int) then
   some true
  else
   need (InB i a1_.length) <|
   (line.blank (bix a1_ i)).bind fun r18 =>
   some r18).bind fun s13 =>
 some s13

def line.hex (c_ : Int) : Option Int :=
 letO (
  if 48 ≤ c_ then
   decide (c_ ≤ 57)
  else
   false) fun s20 =>
 if s20 = true then
  some (IntKind.wrap .i64 (IntKind.wrap .u8 (c_ - 48)))
 else
  letO (
   if 97 ≤ c_ then
    decide (c_ ≤ 102)
   else
    false) fun s25 =>
  if s25 = true then
   some (IntKind.wrap .i64 ((IntKind.wrap .i64 (IntKind.wrap .u8 (c_ - 97))) + 10))
  else
   letO (
    if 65 ≤ c_ then
     decide (c_ ≤ 70)
    else
     false) fun s30 =>
   if s30 = true then
    some (IntKind.wrap .i64 ((IntKind.wrap .i64 (IntKind.wrap .u8 (c_ - 65))) + 10))
   else
    some (-1)

def line.turn (s_ : List UInt8) (at_ : Int) : Option (Int × Int) :=
 (
  need (InB at_ s_.length) <|
  if (bix s_ at_) = 120 then
   if (IntKind.wrap .i64 (at_ + 2)) < (s_.length : Int) then
    need (InB (IntKind.wrap .i64 (at_ + 1)) s_.length) <|
    (line.hex (bix s_ (IntKind.wrap .i64 (at_ + 1)))).bind fun r47 =>
    if 0 ≤ r47 then
     need (InB (IntKind.wrap .i64 (at_ + 2)) s_.length) <|
     (line.hex (bix s_ (IntKind.wrap .i64 (at_ + 2)))).bind fun r50 =>
     some (decide (0 ≤ r50))
    else
     some false
   else
    some false
  else
   some false).bind fun s40 =>
 if s40 = true then
  need (InB (IntKind.wrap .i64 (at_ + 1)) s_.length) <|
  (line.hex (bix s_ (IntKind.wrap .i64 (at_ + 1)))).bind fun r52 =>
  need (InB (IntKind.wrap .i64 (at_ + 2)) s_.length) <|
  (line.hex (bix s_ (IntKind.wrap .i64 (at_ + 2)))).bind fun r54 =>
  some (IntKind.wrap .u8 (IntKind.wrap .i64 ((IntKind.wrap .i64 (16 * r52)) + r54)), IntKind.wrap .i64 (at_ + 3))
 else
  need (InB at_ s_.length) <|
  if (bix s_ at_) = 110 then
   some (10, IntKind.wrap .i64 (at_ + 1))
  else
   if (bix s_ at_) = 114 then
    some (13, IntKind.wrap .i64 (at_ + 1))
   else
    if (bix s_ at_) = 116 then
     some (9, IntKind.wrap .i64 (at_ + 1))
    else
     if (bix s_ at_) = 98 then
      some (8, IntKind.wrap .i64 (at_ + 1))
     else
      if (bix s_ at_) = 97 then
       some (7, IntKind.wrap .i64 (at_ + 1))
      else
       need (InB at_ s_.length) <|
       some (bix s_ at_, IntKind.wrap .i64 (at_ + 1))

structure line.quoted.S0 where
 at_ : Int
 b : List UInt8

def line.quoted.body0 (s_ : List UInt8) (mark : Int) (s414 : line.quoted.S0) : Option (line.quoted.S0 ⊕ (Int ⊕ ((List UInt8) × Int × Bool))) :=
 if s414.at_ < (s_.length : Int) then
  need (InB s414.at_ s_.length) <|
  if (bix s_ s414.at_) = mark then
   (line.quoted_1 (IntKind.wrap .i64 (s414.at_ + 1)) s_).bind fun r420 =>
   some (.inr (.inr (s414.b, IntKind.wrap .i64 (s414.at_ + 1), r420)))
  else
   letO (
    if (bix s_ s414.at_) = 92 then
     if mark = 34 then
      decide ((IntKind.wrap .i64 (s414.at_ + 1)) < (s_.length : Int))
     else
      false
    else
     false) fun s423 =>
   if s423 = true then
    (line.turn s_ (IntKind.wrap .i64 (s414.at_ + 1))).bind fun r428 =>
    need (IsU8 r428.1) <|
    need ((s414.b.length + [u8 r428.1].length) * 1 ≤ 140737488355328) <|
    some (.inl ⟨r428.2, s414.b ++ [u8 r428.1]⟩)
   else
    (
     if (bix s_ s414.at_) = 92 then
      if mark = 39 then
       if (IntKind.wrap .i64 (s414.at_ + 1)) < (s_.length : Int) then
        need (InB (IntKind.wrap .i64 (s414.at_ + 1)) s_.length) <|
        some (decide ((bix s_ (IntKind.wrap .i64 (s414.at_ + 1))) = mark))
       else
        some false
      else
       some false
     else
      some false).bind fun s436 =>
    if s436 = true then
     need (IsU8 mark) <|
     need ((s414.b.length + [u8 mark].length) * 1 ≤ 140737488355328) <|
     some (.inl ⟨IntKind.wrap .i64 (s414.at_ + 2), s414.b ++ [u8 mark]⟩)
    else
     need (IsU8 (bix s_ s414.at_)) <|
     need ((s414.b.length + [u8 (bix s_ s414.at_)].length) * 1 ≤ 140737488355328) <|
     some (.inl ⟨IntKind.wrap .i64 (s414.at_ + 1), s414.b ++ [u8 (bix s_ s414.at_)]⟩)
 else
  some (.inr (.inl s414.at_))

def line.quoted.loop0 (s_ : List UInt8) (mark : Int) (s414 : line.quoted.S0) : Option (Int ⊕ ((List UInt8) × Int × Bool)) := whileO (line.quoted.body0 s_ mark) s414

def line.quoted (s_ : List UInt8) (at_ : Int) (mark : Int) : Option ((List UInt8) × Int × Bool) :=
 (line.quoted.loop0 s_ mark ⟨at_, ([] : List UInt8)⟩).bind fun s455 => onSum s455 (fun s340 =>
  some (([] : List UInt8), s340, false)) fun s455x => some s455x

structure line.Split.S0 where
 out : List (List UInt8)
 at_ : Int

structure line.Split.S2 where
 at_ : Int

def line.Split.body2 (s_ : List UInt8) (s1484 : line.Split.S2) : Option (line.Split.S2 ⊕ Int) :=
 (
  if s1484.at_ < (s_.length : Int) then
   need (InB s1484.at_ s_.length) <|
   (line.blank (bix s_ s1484.at_)).bind fun r1496 =>
   some r1496
  else
   some false).bind fun s1491 =>
 if s1491 = true then
  some (.inl ⟨IntKind.wrap .i64 (s1484.at_ + 1)⟩)
 else
  some (.inr s1484.at_)

def line.Split.loop2 (s_ : List UInt8) (s1484 : line.Split.S2) : Option Int := whileO (line.Split.body2 s_) s1484

structure line.Split.S4 where
 at_ : Int
 b : List UInt8

def line.Split.body4 (s_ : List UInt8) (s1664 : line.Split.S4) : Option (line.Split.S4 ⊕ ((Int × (List UInt8)) ⊕ (line.Split.S0 ⊕ ((List (List UInt8)) × Bool)))) :=
 (
  if s1664.at_ < (s_.length : Int) then
   need (InB s1664.at_ s_.length) <|
   (line.blank (bix s_ s1664.at_)).bind fun r1677 =>
   some (!r1677)
  else
   some false).bind fun s1672 =>
 if s1672 = true then
  (
   need (InB s1664.at_ s_.length) <|
   if (bix s_ s1664.at_) = 34 then
    some false
   else
    need (InB s1664.at_ s_.length) <|
    some (!decide ((bix s_ s1664.at_) = 39))).bind fun s1681 =>
  if s1681 = true then
   need (InB s1664.at_ s_.length) <|
   need (IsU8 (bix s_ s1664.at_)) <|
   need ((s1664.b.length + [u8 (bix s_ s1664.at_)].length) * 1 ≤ 140737488355328) <|
   some (.inl ⟨IntKind.wrap .i64 (s1664.at_ + 1), s1664.b ++ [u8 (bix s_ s1664.at_)]⟩)
  else
   need (InB s1664.at_ s_.length) <|
   (line.quoted s_ (IntKind.wrap .i64 (s1664.at_ + 1)) (bix s_ s1664.at_)).bind fun r1692 =>
   if (!r1692.2.2) = true then
    some (.inr (.inr (.inr (([] : List (List UInt8)), false))))
   else
    need ((s1664.b.length + r1692.1.length) * 1 ≤ 140737488355328) <|
    some (.inl ⟨r1692.2.1, s1664.b ++ r1692.1⟩)
 else
  some (.inr (.inl (s1664.at_, s1664.b)))

def line.Split.loop4 (s_ : List UInt8) (s1664 : line.Split.S4) : Option ((Int × (List UInt8)) ⊕ (line.Split.S0 ⊕ ((List (List UInt8)) × Bool))) := whileO (line.Split.body4 s_) s1664

def line.Split.body0 (s_ : List UInt8) (s1418 : line.Split.S0) : Option (line.Split.S0 ⊕ ((List (List UInt8)) × Bool)) :=
 (line.Split.loop2 s_ ⟨s1418.at_⟩).bind fun s1459 =>
 if s1459 = (s_.length : Int) then
  some (.inr (s1418.out, true))
 else
  (line.Split.loop4 s_ ⟨s1459, ([] : List UInt8)⟩).bind fun s1703 => onSum s1703 (fun s1597 =>
   need ((s1418.out.length + [s1597.2].length) * 16 ≤ 140737488355328) <|
   some (.inl ⟨s1418.out ++ [s1597.2], s1597.1⟩)) fun s1703x => some s1703x

def line.Split.loop0 (s_ : List UInt8) (s1418 : line.Split.S0) : Option ((List (List UInt8)) × Bool) := whileO (line.Split.body0 s_) s1418

def line.Split (s_ : List UInt8) : Option ((List (List UInt8)) × Bool) :=
 line.Split.loop0 s_ ⟨([] : List (List UInt8)), 0⟩

def parse.parser.line_1 (s_ : List UInt8) (b1_ : parse.parser) : Option Bool :=
 some (decide (b1_.l.Bulk < (s_.length : Int)))

structure slices.IndexFunc_string_parse_parser_line_1.S0 where
 t8 : Int

def slices.IndexFunc_string_parse_parser_line_1.body0 (s_ : List (List UInt8)) (b1_ : parse.parser) (s112 : slices.IndexFunc_string_parse_parser_line_1.S0) : Option (slices.IndexFunc_string_parse_parser_line_1.S0 ⊕ (Unit ⊕ Int)) :=
 if s112.t8 < (s_.length : Int) then
  need (InB s112.t8 s_.length) <|
  (parse.parser.line_1 (ix s_ s112.t8) b1_).bind fun r119 =>
  if r119 = true then
   some (.inr (.inr s112.t8))
  else
   some (.inl ⟨IntKind.wrap .i64 (s112.t8 + 1)⟩)
 else
  some (.inr (.inl ()))

def slices.IndexFunc_string_parse_parser_line_1.loop0 (s_ : List (List UInt8)) (b1_ : parse.parser) (s112 : slices.IndexFunc_string_parse_parser_line_1.S0) : Option (Unit ⊕ Int) := whileO (slices.IndexFunc_string_parse_parser_line_1.body0 s_ b1_) s112

def slices.IndexFunc_string_parse_parser_line_1 (s_ : List (List UInt8)) (b1_ : parse.parser) : Option Int :=
 (slices.IndexFunc_string_parse_parser_line_1.loop0 s_ b1_ ⟨0⟩).bind fun s124 => onSum s124 (fun s91 =>
  some (-1)) fun s124x => some s124x

def slices.ContainsFunc_string_parse_parser_line_1 (s_ : List (List UInt8)) (b1_ : parse.parser) : Option Bool :=
 (slices.IndexFunc_string_parse_parser_line_1 s_ b1_).bind fun r4 =>
 some (decide (0 ≤ r4))

def parse.parser.line (p_ : parse.parser) : Option (Bool × parse.parser) :=
 (strings.IndexByte p_.s 10).bind fun r36 =>
 letO (
  if r36 < 0 then
   if p_.l.Line < (p_.s.length : Int) then
    true
   else
    decide (p_.l.Line < r36)
  else
   decide (p_.l.Line < r36)) fun s39 =>
 if s39 = true then
  (parse.parser.dies 6 p_).bind fun r44 =>
  some (r44.1, r44.2)
 else
  if r36 < 0 then
   some (false, p_)
  else
   need (InR 0 r36 p_.s.length) <|
   (strings.TrimSuffix (sub p_.s 0 r36) [13]).bind fun r48 =>
   (line.Split r48).bind fun r49 =>
   if (!r49.2) = true then
    (parse.parser.dies 16 p_).bind fun r51 =>
    some (r51.1, r51.2)
   else
    if p_.l.Args < (r49.1.length : Int) then
     (parse.parser.dies 7 p_).bind fun r54 =>
     some (r54.1, r54.2)
    else
     (slices.ContainsFunc_string_parse_parser_line_1 r49.1 p_).bind fun r57 =>
     if r57 = true then
      (parse.parser.dies 6 p_).bind fun r60 =>
      some (r60.1, r60.2)
     else
      (parse.parser.past (IntKind.wrap .i64 (r36 + 1)) p_).bind fun r63 =>
      (parse.parser.whole r49.1 r63).bind fun r66 =>
      some (true, r66)

def parse.parser.step (p_ : parse.parser) : Option (Bool × parse.parser) :=
 if p_.in_.Body = true then
  (parse.parser.body p_).bind fun r50 =>
  some (r50.1, r50.2)
 else
  if 0 < p_.in_.Left then
   (parse.parser.header 36 p_.l.Bulk 6 p_).bind fun r53 =>
   letO (
    if r53.2.1 = true then
     (true, r53.1)
    else
     (r53.2.2.in_.Body, r53.2.2.in_.Need)) fun s57 =>
   some (r53.2.1, { r53.2.2 with in_ := { r53.2.2.in_ with Body := s57.1, Need := s57.2 } })
  else
   if p_.s = ([] : List UInt8) then
    some (false, p_)
   else
    need (InB 0 p_.s.length) <|
    if (bix p_.s 0) = 42 then
     (parse.parser.header 42 p_.l.Args 7 p_).bind fun r65 =>
     letO (
      if r65.2.1 = true then
       r65.1
      else
       r65.2.2.in_.Left) fun s69 =>
     (
      letO (
       if r65.2.1 = true then
        decide (r65.1 = 0)
       else
        false) fun s87 =>
      if s87 = true then
       (parse.parser.whole ([] : List (List UInt8)) { r65.2.2 with in_ := { r65.2.2.in_ with Left := s69 } }).bind fun r91 =>
       some (r91.in_.Rest, r91.in_.Args, r91.in_.Left, r91.in_.Size, r91.in_.Body, r91.in_.Need, r91.in_.Dead, r91.s, r91.l.Args, r91.l.Bulk, r91.l.Line, r91.out)
      else
       some (r65.2.2.in_.Rest, r65.2.2.in_.Args, s69, r65.2.2.in_.Size, r65.2.2.in_.Body, r65.2.2.in_.Need, r65.2.2.in_.Dead, r65.2.2.s, r65.2.2.l.Args, r65.2.2.l.Bulk, r65.2.2.l.Line, r65.2.2.out)).bind fun s81 =>
     some (r65.2.1, ({ in_ := ({ Rest := s81.1, Args := s81.2.1, Left := s81.2.2.1, Size := s81.2.2.2.1, Body := s81.2.2.2.2.1, Need := s81.2.2.2.2.2.1, Dead := s81.2.2.2.2.2.2.1 } : api.Input), s := s81.2.2.2.2.2.2.2.1, l := ({ Args := s81.2.2.2.2.2.2.2.2.1, Bulk := s81.2.2.2.2.2.2.2.2.2.1, Line := s81.2.2.2.2.2.2.2.2.2.2.1 } : api.Limits), out := s81.2.2.2.2.2.2.2.2.2.2.2 } : parse.parser))
    else
     (parse.parser.line p_).bind fun r62 =>
     some (r62.1, r62.2)

structure parse.Feed.S0 where
 c : List UInt8
 c2 : List (List UInt8)
 c3 : Int
 c4 : Int
 c5 : Bool
 c6 : Int
 c7 : Int
 c8 : List UInt8
 c9 : Int
 c10 : Int
 c11 : Int
 c12 : List api.Request

def parse.Feed.body0 (in_ : api.Input) (l : api.Limits) (s115 : parse.Feed.S0) : Option (parse.Feed.S0 ⊕ ((List UInt8) × (List (List UInt8)) × Int × Int × Bool × Int × Int × (List UInt8) × Int × Int × Int × (List api.Request))) :=
 (parse.parser.step ({ in_ := ({ Rest := s115.c, Args := s115.c2, Left := s115.c3, Size := s115.c4, Body := s115.c5, Need := s115.c6, Dead := s115.c7 } : api.Input), s := s115.c8, l := ({ Args := s115.c9, Bulk := s115.c10, Line := s115.c11 } : api.Limits), out := s115.c12 } : parse.parser)).bind fun r121 =>
 if r121.1 = true then
  some (.inl ⟨r121.2.in_.Rest, r121.2.in_.Args, r121.2.in_.Left, r121.2.in_.Size, r121.2.in_.Body, r121.2.in_.Need, r121.2.in_.Dead, r121.2.s, r121.2.l.Args, r121.2.l.Bulk, r121.2.l.Line, r121.2.out⟩)
 else
  some (.inr (r121.2.in_.Rest, r121.2.in_.Args, r121.2.in_.Left, r121.2.in_.Size, r121.2.in_.Body, r121.2.in_.Need, r121.2.in_.Dead, r121.2.s, r121.2.l.Args, r121.2.l.Bulk, r121.2.l.Line, r121.2.out))

def parse.Feed.loop0 (in_ : api.Input) (l : api.Limits) (s115 : parse.Feed.S0) : Option ((List UInt8) × (List (List UInt8)) × Int × Int × Bool × Int × Int × (List UInt8) × Int × Int × Int × (List api.Request)) := whileO (parse.Feed.body0 in_ l) s115

def parse.Feed (in_ : api.Input) (b : List UInt8) (l : api.Limits) : Option (api.Input × (List api.Request) × Int) :=
 if in_.Dead = 0 then
  need (in_.Rest.length + b.length ≤ 9223372036854775807) <|
  (parse.Limits l).bind fun r69 =>
  (slices.Clone_string in_.Args).bind fun r71 =>
  (parse.Feed.loop0 in_ l ⟨([] : List UInt8), r71, in_.Left, in_.Size, in_.Body, in_.Need, in_.Dead, in_.Rest ++ b, r69.Args, r69.Bulk, r69.Line, ([] : List api.Request)⟩).bind fun s97 =>
  (strings.Clone s97.2.2.2.2.2.2.2.1).bind fun r126 =>
  some (({ Rest := r126, Args := s97.2.1, Left := s97.2.2.1, Size := s97.2.2.2.1, Body := s97.2.2.2.2.1, Need := s97.2.2.2.2.2.1, Dead := s97.2.2.2.2.2.2.1 } : api.Input), s97.2.2.2.2.2.2.2.2.2.2.2, s97.2.2.2.2.2.2.1)
 else
  some (({ Rest := ([] : List UInt8), Args := ([] : List (List UInt8)), Left := 0, Size := 0, Body := false, Need := 0, Dead := in_.Dead } : api.Input), ([] : List api.Request), in_.Dead)

structure table.Upper.S0 where
 t10 : Int
 v : List UInt8

def table.Upper.body0 (name : List UInt8) (s317 : table.Upper.S0) : Option (table.Upper.S0 ⊕ (List UInt8)) :=
 if s317.t10 < (name.length : Int) then
  (
   need (InB s317.t10 s317.v.length) <|
   need (InB s317.t10 s317.v.length) <|
   letO (
    if 97 ≤ ((ix s317.v s317.t10).toNat : Int) then
     decide (((ix s317.v s317.t10).toNat : Int) ≤ 122)
    else
     false) fun s338 =>
   if s338 = true then
    need (InB s317.t10 s317.v.length) <|
    need (InB s317.t10 s317.v.length) <|
    need (IsU8 (IntKind.wrap .u8 ((IntKind.wrap .u8 (((ix s317.v s317.t10).toNat : Int) - 97)) + 65))) <|
    some (upd s317.v s317.t10 (u8 (IntKind.wrap .u8 ((IntKind.wrap .u8 (((ix s317.v s317.t10).toNat : Int) - 97)) + 65))))
   else
    some s317.v).bind fun s332 =>
  some (.inl ⟨IntKind.wrap .i64 (s317.t10 + 1), s332⟩)
 else
  some (.inr s317.v)

def table.Upper.loop0 (name : List UInt8) (s317 : table.Upper.S0) : Option (List UInt8) := whileO (table.Upper.body0 name) s317

def table.Upper (name : List UInt8) : Option (List UInt8) :=
 need (name.length ≤ 140737488355328) <|
 (table.Upper.loop0 name ⟨0, name⟩).bind fun s260 =>
 some s260

def auth.Find_1 (t_ : api.Tenant) (a1_ : List UInt8) : Option Bool :=
 some (decide (t_.Token = a1_))

structure slices.IndexFunc_api_Tenant_auth_Find_1.S0 where
 t8 : Int

def slices.IndexFunc_api_Tenant_auth_Find_1.body0 (s_ : List api.Tenant) (b0_ : List UInt8) (s72 : slices.IndexFunc_api_Tenant_auth_Find_1.S0) : Option (slices.IndexFunc_api_Tenant_auth_Find_1.S0 ⊕ (Unit ⊕ Int)) :=
 if s72.t8 < (s_.length : Int) then
  need (InB s72.t8 s_.length) <|
  (auth.Find_1 (ix s_ s72.t8) b0_).bind fun r77 =>
  if r77 = true then
   some (.inr (.inr s72.t8))
  else
   some (.inl ⟨IntKind.wrap .i64 (s72.t8 + 1)⟩)
 else
  some (.inr (.inl ()))

def slices.IndexFunc_api_Tenant_auth_Find_1.loop0 (s_ : List api.Tenant) (b0_ : List UInt8) (s72 : slices.IndexFunc_api_Tenant_auth_Find_1.S0) : Option (Unit ⊕ Int) := whileO (slices.IndexFunc_api_Tenant_auth_Find_1.body0 s_ b0_) s72

def slices.IndexFunc_api_Tenant_auth_Find_1 (s_ : List api.Tenant) (b0_ : List UInt8) : Option Int :=
 (slices.IndexFunc_api_Tenant_auth_Find_1.loop0 s_ b0_ ⟨0⟩).bind fun s80 => onSum s80 (fun s59 =>
  some (-1)) fun s80x => some s80x

def auth.Find (c_ : api.Config) (token : List UInt8) : Option Int :=
 (slices.IndexFunc_api_Tenant_auth_Find_1 c_.Tenants token).bind fun r6 =>
 some r6

def auth.verdict (c_ : api.Config) (call : List (List UInt8)) : Option (Int × Int) :=
 (
  need (InB 0 call.length) <|
  (table.Upper (ix call 0)).bind fun r23 =>
  if r23 = [65, 85, 84, 72] then
   some (!decide ((call.length : Int) = 2))
  else
   some true).bind fun s19 =>
 if s19 = true then
  some ((-1), 2)
 else
  need (InB 1 call.length) <|
  (auth.Find c_ (ix call 1)).bind fun r26 =>
  if r26 < 0 then
   some ((-1), 3)
  else
   some (r26, 1)

structure auth.First.S0 where
 t22 : Int
 c : List UInt8
 c2 : List (List UInt8)
 c3 : Int
 c4 : Int
 c5 : Bool
 c6 : Int
 c7 : Int

def auth.First.body0 (s_ : List UInt8) (c_ : api.Config) (s145 : auth.First.S0) : Option (auth.First.S0 ⊕ (((List UInt8) × (List (List UInt8)) × Int × Int × Bool × Int × Int) ⊕ (api.Input × (List UInt8) × Int × Int))) :=
 if s145.t22 < (s_.length : Int) then
  need (InR s145.t22 (IntKind.wrap .i64 (s145.t22 + 1)) s_.length) <|
  (auth.limits).bind fun r150 =>
  (parse.Feed ({ Rest := s145.c, Args := s145.c2, Left := s145.c3, Size := s145.c4, Body := s145.c5, Need := s145.c6, Dead := s145.c7 } : api.Input) (sub s_ s145.t22 (IntKind.wrap .i64 (s145.t22 + 1))) r150).bind fun r151 =>
  if r151.2.2 = 0 then
   if 0 < (r151.2.1.length : Int) then
    need (InB 0 r151.2.1.length) <|
    (auth.verdict c_ (ix r151.2.1 0).Args).bind fun r154 =>
    need (InR (IntKind.wrap .i64 (s145.t22 + 1)) (s_.length : Int) s_.length) <|
    some (.inr (.inr (({ Rest := ([] : List UInt8), Args := ([] : List (List UInt8)), Left := 0, Size := 0, Body := false, Need := 0, Dead := 0 } : api.Input), sub s_ (IntKind.wrap .i64 (s145.t22 + 1)) (s_.length : Int), r154.1, r154.2)))
   else
    some (.inl ⟨IntKind.wrap .i64 (s145.t22 + 1), r151.1.Rest, r151.1.Args, r151.1.Left, r151.1.Size, r151.1.Body, r151.1.Need, r151.1.Dead⟩)
  else
   some (.inr (.inr (r151.1, ([] : List UInt8), (-1), 4)))
 else
  some (.inr (.inl (s145.c, s145.c2, s145.c3, s145.c4, s145.c5, s145.c6, s145.c7)))

def auth.First.loop0 (s_ : List UInt8) (c_ : api.Config) (s145 : auth.First.S0) : Option (((List UInt8) × (List (List UInt8)) × Int × Int × Bool × Int × Int) ⊕ (api.Input × (List UInt8) × Int × Int)) := whileO (auth.First.body0 s_ c_) s145

def auth.First (c_ : api.Config) (in_ : api.Input) (s_ : List UInt8) : Option (api.Input × (List UInt8) × Int × Int) :=
 if in_.Dead = 0 then
  (auth.First.loop0 s_ c_ ⟨0, in_.Rest, in_.Args, in_.Left, in_.Size, in_.Body, in_.Need, in_.Dead⟩).bind fun s159 => onSum s159 (fun s120 =>
   some (({ Rest := s120.1, Args := s120.2.1, Left := s120.2.2.1, Size := s120.2.2.2.1, Body := s120.2.2.2.2.1, Need := s120.2.2.2.2.2.1, Dead := s120.2.2.2.2.2.2 } : api.Input), ([] : List UInt8), (-1), 0)) fun s159x => some s159x
 else
  some (in_, ([] : List UInt8), (-1), 4)

structure auth.Label.S0 where
 t15 : Int
 c : List UInt8
 c2 : List (List UInt8)
 c3 : Int
 c4 : Int
 c5 : Bool
 c6 : Int
 c7 : Int

def auth.Label.body0 (pieces : List (List UInt8)) (c_ : api.Config) (s87 : auth.Label.S0) : Option (auth.Label.S0 ⊕ (Unit ⊕ Int)) :=
 if s87.t15 < (pieces.length : Int) then
  need (InB s87.t15 pieces.length) <|
  (auth.First c_ ({ Rest := s87.c, Args := s87.c2, Left := s87.c3, Size := s87.c4, Body := s87.c5, Need := s87.c6, Dead := s87.c7 } : api.Input) (ix pieces s87.t15)).bind fun r92 =>
  if r92.2.2.2 = 0 then
   some (.inl ⟨IntKind.wrap .i64 (s87.t15 + 1), r92.1.Rest, r92.1.Args, r92.1.Left, r92.1.Size, r92.1.Body, r92.1.Need, r92.1.Dead⟩)
  else
   some (.inr (.inr r92.2.2.1))
 else
  some (.inr (.inl ()))

def auth.Label.loop0 (pieces : List (List UInt8)) (c_ : api.Config) (s87 : auth.Label.S0) : Option (Unit ⊕ Int) := whileO (auth.Label.body0 pieces c_) s87

def auth.Label (c_ : api.Config) (pieces : List (List UInt8)) : Option Int :=
 (auth.Label.loop0 pieces c_ ⟨0, ([] : List UInt8), ([] : List (List UInt8)), 0, 0, false, 0, 0⟩).bind fun s96 => onSum s96 (fun s72 =>
  some (-1)) fun s96x => some s96x

def project.Of (c_ : api.Config) (l : List api.Event) (handle : Int) : Option Int :=
 (script.Bytes l handle).bind fun r5 =>
 (auth.Label c_ [r5]).bind fun r6 =>
 some r6

structure project.labels.S0 where
 t13 : Int
 b : List (Int × Int)

def project.labels.body0 (l : List api.Event) (c_ : api.Config) (s317 : project.labels.S0) : Option (project.labels.S0 ⊕ (List (Int × Int))) :=
 if s317.t13 < (l.length : Int) then
  (
   need (InB s317.t13 l.length) <|
   need (mkI.wf (ix l s317.t13).Handle = true) <|
   letO (
    if (!(mpHas s317.b (ix l s317.t13).Handle)) = true then
     decide ((ix l s317.t13).Kind = 1)
    else
     false) fun s339 =>
   if s339 = true then
    (project.Of c_ l (ix l s317.t13).Handle).bind fun r343 =>
    need (mkI.wf (ix l s317.t13).Handle = true ∧ s317.b.length < maxLen) <|
    some (mpPut mkI s317.b (ix l s317.t13).Handle r343)
   else
    some s317.b).bind fun s332 =>
  some (.inl ⟨IntKind.wrap .i64 (s317.t13 + 1), s332⟩)
 else
  some (.inr s317.b)

def project.labels.loop0 (l : List api.Event) (c_ : api.Config) (s317 : project.labels.S0) : Option (List (Int × Int)) := whileO (project.labels.body0 l c_) s317

def project.labels (c_ : api.Config) (l : List api.Event) : Option (List (Int × Int)) :=
 (project.labels.loop0 l c_ ⟨0, ([] : List (Int × Int))⟩).bind fun s260 =>
 some s260

structure project.Labels.S0 where
 out : List api.Label
 t16 : Int

def project.Labels.body0 (r61 : List (Int × Int)) (s108 : project.Labels.S0) : Option (project.Labels.S0 ⊕ (List api.Label)) :=
 if s108.t16 < (((List.map Prod.fst r61).mergeSort fun x y => decide (x ≤ y)).length : Int) then
  need (InB s108.t16 ((List.map Prod.fst r61).mergeSort fun x y => decide (x ≤ y)).length) <|
  need (mkI.wf (ix ((List.map Prod.fst r61).mergeSort fun x y => decide (x ≤ y)) s108.t16) = true) <|
  need ((s108.out.length + [({ Handle := ix ((List.map Prod.fst r61).mergeSort fun x y => decide (x ≤ y)) s108.t16, Tenant := ((mpGet r61 (ix ((List.map Prod.fst r61).mergeSort fun x y => decide (x ≤ y)) s108.t16)).getD 0) } : api.Label)].length) * 16 ≤ 140737488355328) <|
  some (.inl ⟨s108.out ++ [({ Handle := ix ((List.map Prod.fst r61).mergeSort fun x y => decide (x ≤ y)) s108.t16, Tenant := ((mpGet r61 (ix ((List.map Prod.fst r61).mergeSort fun x y => decide (x ≤ y)) s108.t16)).getD 0) } : api.Label)], IntKind.wrap .i64 (s108.t16 + 1)⟩)
 else
  some (.inr s108.out)

def project.Labels.loop0 (r61 : List (Int × Int)) (s108 : project.Labels.S0) : Option (List api.Label) := whileO (project.Labels.body0 r61) s108

def project.Labels (c_ : api.Config) (l : List api.Event) : Option (List api.Label) :=
 (project.labels c_ l).bind fun r61 =>
 (
  need (r61.length * 8 ≤ 140737488355328) <|
  project.Labels.loop0 r61 ⟨([] : List api.Label), 0⟩).bind fun s89 =>
 some s89

def project.Tenant_1 (handle : Int) (a2_ : Int) (tab : List (Int × Int)) : Option Bool :=
 need (mkI.wf handle = true) <|
 letO (
  if (mpHas tab handle) = true then
   if ((mpGet tab handle).getD 0) = a2_ then
    decide (0 ≤ a2_)
   else
    false
  else
   false) fun s12 =>
 some s12

def slices.Clone_api_Left (s : List api.Left) : Option (List api.Left) :=
 need ((([] : List api.Left).length + s.length) * 32 ≤ 140737488355328) <|
 some s

def project.Tenant_2 (x_ : api.Left) (a1_ : Int) (a2_ : api.Config) : Option Bool :=
 letO (
  if x_.Tenant = a1_ then
   if a1_ < 0 then
    true
   else
    decide ((a2_.Tenants.length : Int) ≤ a1_)
  else
   true) fun s12 =>
 some s12

structure slices.IndexFunc_api_Left_v_project_Tenant_2.S0 where
 t8 : Int

def slices.IndexFunc_api_Left_v_project_Tenant_2.body0 (s_ : List api.Left) (b1_ : Int) (b2_ : api.Config) (s83 : slices.IndexFunc_api_Left_v_project_Tenant_2.S0) : Option (slices.IndexFunc_api_Left_v_project_Tenant_2.S0 ⊕ (Unit ⊕ Int)) :=
 if s83.t8 < (s_.length : Int) then
  need (InB s83.t8 s_.length) <|
  need (InB s83.t8 s_.length) <|
  (project.Tenant_2 (ix s_ s83.t8) b1_ b2_).bind fun r89 =>
  if r89 = true then
   some (.inr (.inr s83.t8))
  else
   some (.inl ⟨IntKind.wrap .i64 (s83.t8 + 1)⟩)
 else
  some (.inr (.inl ()))

def slices.IndexFunc_api_Left_v_project_Tenant_2.loop0 (s_ : List api.Left) (b1_ : Int) (b2_ : api.Config) (s83 : slices.IndexFunc_api_Left_v_project_Tenant_2.S0) : Option (Unit ⊕ Int) := whileO (slices.IndexFunc_api_Left_v_project_Tenant_2.body0 s_ b1_ b2_) s83

def slices.IndexFunc_api_Left_v_project_Tenant_2 (s_ : List api.Left) (b1_ : Int) (b2_ : api.Config) : Option Int :=
 (slices.IndexFunc_api_Left_v_project_Tenant_2.loop0 s_ b1_ b2_ ⟨0⟩).bind fun s92 => onSum s92 (fun s68 =>
  some (-1)) fun s92x => some s92x

structure slices.DeleteFunc_api_Left_v_project_Tenant_2.S0 where
 i : Int
 j : Int
 v : List api.Left

def slices.DeleteFunc_api_Left_v_project_Tenant_2.body0 (b1_ : Int) (b2_ : api.Config) (s231 : slices.DeleteFunc_api_Left_v_project_Tenant_2.S0) : Option (slices.DeleteFunc_api_Left_v_project_Tenant_2.S0 ⊕ (Int × (List api.Left))) :=
 if s231.j < (s231.v.length : Int) then
  (
   need (InB s231.j s231.v.length) <|
   need (InB s231.j s231.v.length) <|
   (project.Tenant_2 (ix s231.v s231.j) b1_ b2_).bind fun r248 =>
   if (!r248) = true then
    need (InB s231.i s231.v.length) <|
    need (InB s231.i s231.v.length) <|
    some (IntKind.wrap .i64 (s231.i + 1), upd s231.v s231.i (ix s231.v s231.j))
   else
    some (s231.i, s231.v)).bind fun s242 =>
  some (.inl ⟨s242.1, IntKind.wrap .i64 (s231.j + 1), s242.2⟩)
 else
  some (.inr (s231.i, s231.v))

def slices.DeleteFunc_api_Left_v_project_Tenant_2.loop0 (b1_ : Int) (b2_ : api.Config) (s231 : slices.DeleteFunc_api_Left_v_project_Tenant_2.S0) : Option (Int × (List api.Left)) := whileO (slices.DeleteFunc_api_Left_v_project_Tenant_2.body0 b1_ b2_) s231

def slices.DeleteFunc_api_Left_v_project_Tenant_2 (s_ : List api.Left) (b1_ : Int) (b2_ : api.Config) : Option (List api.Left) :=
 (slices.IndexFunc_api_Left_v_project_Tenant_2 s_ b1_ b2_).bind fun r129 =>
 if r129 = (-1) then
  some s_
 else
  (slices.DeleteFunc_api_Left_v_project_Tenant_2.loop0 b1_ b2_ ⟨r129, IntKind.wrap .i64 (r129 + 1), s_⟩).bind fun s190 =>
  need (InR s190.1 (s190.2.length : Int) s190.2.length) <|
  need (InP s190.1 (s190.2.length : Int) s190.2.length) <|
  need (InR 0 s190.1 (clrL s190.2 (Int.toNat s190.1) (Int.toNat (s190.2.length : Int)) (({ Tenant := 0, Keep := ({ Name := ([] : List UInt8), Bytes := 0 } : api.Keep) } : api.Left) : api.Left)).length) <|
  need (0 ≤ s190.1 ∧ s190.1 ≤ ((clrL s190.2 (Int.toNat s190.1) (Int.toNat (s190.2.length : Int)) (({ Tenant := 0, Keep := ({ Name := ([] : List UInt8), Bytes := 0 } : api.Keep) } : api.Left) : api.Left)).length : Int)) <|
  some (List.take (Int.toNat s190.1) (clrL s190.2 (Int.toNat s190.1) (Int.toNat (s190.2.length : Int)) (({ Tenant := 0, Keep := ({ Name := ([] : List UInt8), Bytes := 0 } : api.Keep) } : api.Left) : api.Left)))

structure project.Tenant.S0 where
 out : List api.Event
 t19 : Int

def project.Tenant.body0 (l : List api.Event) (i : Int) (r758 : List (Int × Int)) (c_ : api.Config) (s1384 : project.Tenant.S0) : Option (project.Tenant.S0 ⊕ (List api.Event)) :=
 if s1384.t19 < (l.length : Int) then
  (
   need (InB s1384.t19 l.length) <|
   (
    letO (
     if (ix l s1384.t19).Kind = 1 then
      decide ((ix l s1384.t19).Kind = 1)
     else
      if (ix l s1384.t19).Kind = 2 then
       decide ((ix l s1384.t19).Kind = 2)
      else
       if (ix l s1384.t19).Kind = 3 then
        decide ((ix l s1384.t19).Kind = 3)
       else
        decide ((ix l s1384.t19).Kind = 4)) fun s1484 =>
    if s1484 = true then
     (project.Tenant_1 (ix l s1384.t19).Handle i r758).bind fun r1490 =>
     some (r1490, (ix l s1384.t19).Lefts)
    else
     letO (
      if (ix l s1384.t19).Kind = 5 then
       decide ((ix l s1384.t19).Kind = 5)
      else
       decide ((ix l s1384.t19).Kind = 6)) fun s1492 =>
     if s1492 = true then
      some (true, (ix l s1384.t19).Lefts)
     else
      if (ix l s1384.t19).Kind = 7 then
       if (ix l s1384.t19).Tenant = i then
        if 0 ≤ i then
         some (decide (i < (c_.Tenants.length : Int)), (ix l s1384.t19).Lefts)
        else
         some (false, (ix l s1384.t19).Lefts)
       else
        some (false, (ix l s1384.t19).Lefts)
      else
       if (ix l s1384.t19).Kind = 8 then
        (slices.Clone_api_Left (ix l s1384.t19).Lefts).bind fun r1498 =>
        (slices.DeleteFunc_api_Left_v_project_Tenant_2 r1498 i c_).bind fun r1500 =>
        some (true, r1500)
       else
        some (false, (ix l s1384.t19).Lefts)).bind fun s1478 =>
   if s1478.1 = true then
    need ((s1384.out.length + [{ (ix l s1384.t19) with Lefts := s1478.2 }].length) * 104 ≤ 140737488355328) <|
    some (s1384.out ++ [{ (ix l s1384.t19) with Lefts := s1478.2 }])
   else
    some s1384.out).bind fun s1447 =>
  some (.inl ⟨s1447, IntKind.wrap .i64 (s1384.t19 + 1)⟩)
 else
  some (.inr s1384.out)

def project.Tenant.loop0 (l : List api.Event) (i : Int) (r758 : List (Int × Int)) (c_ : api.Config) (s1384 : project.Tenant.S0) : Option (List api.Event) := whileO (project.Tenant.body0 l i r758 c_) s1384

def project.Tenant (c_ : api.Config) (l : List api.Event) (i : Int) : Option (List api.Event) :=
 (project.labels c_ l).bind fun r758 =>
 (project.Tenant.loop0 l i r758 c_ ⟨([] : List api.Event), 0⟩).bind fun s1134 =>
 some s1134

structure slices.Equal_api_Left.S0 where
 t13 : Int

def slices.Equal_api_Left.body0 (s1_ : List api.Left) (s2_ : List api.Left) (s73 : slices.Equal_api_Left.S0) : Option (slices.Equal_api_Left.S0 ⊕ (Unit ⊕ Bool)) :=
 if s73.t13 < (s1_.length : Int) then
  need (InB s73.t13 s1_.length) <|
  need (InB s73.t13 s2_.length) <|
  if (ix s1_ s73.t13) = (ix s2_ s73.t13) then
   some (.inl ⟨IntKind.wrap .i64 (s73.t13 + 1)⟩)
  else
   some (.inr (.inr false))
 else
  some (.inr (.inl ()))

def slices.Equal_api_Left.loop0 (s1_ : List api.Left) (s2_ : List api.Left) (s73 : slices.Equal_api_Left.S0) : Option (Unit ⊕ Bool) := whileO (slices.Equal_api_Left.body0 s1_ s2_) s73

def slices.Equal_api_Left (s1_ : List api.Left) (s2_ : List api.Left) : Option Bool :=
 if (s1_.length : Int) = (s2_.length : Int) then
  (slices.Equal_api_Left.loop0 s1_ s2_ ⟨0⟩).bind fun s81 => onSum s81 (fun s60 =>
   some true) fun s81x => some s81x
 else
  some false

def event.Same (a : api.Event) (b : api.Event) : Option Bool :=
 (
  if a.Kind = b.Kind then
   if a.Handle = b.Handle then
    if a.S = b.S then
     if a.N = b.N then
      if a.Tenant = b.Tenant then
       if a.Fault = b.Fault then
        (slices.Equal_api_Left a.Lefts b.Lefts).bind fun r38 =>
        some r38
       else
        some false
      else
       some false
     else
      some false
    else
     some false
   else
    some false
  else
   some false).bind fun s29 =>
 some s29

structure slices.EqualFunc_api_Event_event_Same.S0 where
 t17 : Int

def slices.EqualFunc_api_Event_event_Same.body0 (s1_ : List api.Event) (s2_ : List api.Event) (s106 : slices.EqualFunc_api_Event_event_Same.S0) : Option (slices.EqualFunc_api_Event_event_Same.S0 ⊕ (Unit ⊕ Bool)) :=
 if s106.t17 < (s1_.length : Int) then
  need (InB s106.t17 s1_.length) <|
  need (InB s106.t17 s2_.length) <|
  (event.Same (ix s1_ s106.t17) (ix s2_ s106.t17)).bind fun r114 =>
  if (!r114) = true then
   some (.inr (.inr false))
  else
   some (.inl ⟨IntKind.wrap .i64 (s106.t17 + 1)⟩)
 else
  some (.inr (.inl ()))

def slices.EqualFunc_api_Event_event_Same.loop0 (s1_ : List api.Event) (s2_ : List api.Event) (s106 : slices.EqualFunc_api_Event_event_Same.S0) : Option (Unit ⊕ Bool) := whileO (slices.EqualFunc_api_Event_event_Same.body0 s1_ s2_) s106

def slices.EqualFunc_api_Event_event_Same (s1_ : List api.Event) (s2_ : List api.Event) : Option Bool :=
 if (s1_.length : Int) = (s2_.length : Int) then
  (slices.EqualFunc_api_Event_event_Same.loop0 s1_ s2_ ⟨0⟩).bind fun s117 => onSum s117 (fun s87 =>
   some true) fun s117x => some s117x
 else
  some false

def project.Same (a : List api.Event) (b : List api.Event) : Option Bool :=
 (slices.EqualFunc_api_Event_event_Same a b).bind fun r2 =>
 some r2

def mewslaw49.alive  : Option Bool :=
 (mewslaw46.Some).bind fun r28 =>
 (
  (project.Of r28 [({ Kind := 1, Handle := 7, S := ([] : List UInt8), N := 0, Tenant := 0, Fault := ({ Name := ([] : List UInt8), Kind := 0, Short := 0 } : api.Fault), Lefts := ([] : List api.Left) } : api.Event), ({ Kind := 1, Handle := 8, S := ([] : List UInt8), N := 0, Tenant := 0, Fault := ({ Name := ([] : List UInt8), Kind := 0, Short := 0 } : api.Fault), Lefts := ([] : List api.Left) } : api.Event), ({ Kind := 2, Handle := 7, S := [65, 85, 84, 72, 32, 115, 10], N := 0, Tenant := 0, Fault := ({ Name := ([] : List UInt8), Kind := 0, Short := 0 } : api.Fault), Lefts := ([] : List api.Left) } : api.Event), ({ Kind := 2, Handle := 8, S := [65, 85, 84, 72, 32, 116, 10], N := 0, Tenant := 0, Fault := ({ Name := ([] : List UInt8), Kind := 0, Short := 0 } : api.Fault), Lefts := ([] : List api.Left) } : api.Event), ({ Kind := 6, Handle := 0, S := ([] : List UInt8), N := 0, Tenant := 0, Fault := ({ Name := ([] : List UInt8), Kind := 0, Short := 0 } : api.Fault), Lefts := ([] : List api.Left) } : api.Event)] 8).bind fun r44 =>
  if r44 = 1 then
   (project.Labels r28 [({ Kind := 1, Handle := 7, S := ([] : List UInt8), N := 0, Tenant := 0, Fault := ({ Name := ([] : List UInt8), Kind := 0, Short := 0 } : api.Fault), Lefts := ([] : List api.Left) } : api.Event), ({ Kind := 1, Handle := 8, S := ([] : List UInt8), N := 0, Tenant := 0, Fault := ({ Name := ([] : List UInt8), Kind := 0, Short := 0 } : api.Fault), Lefts := ([] : List api.Left) } : api.Event), ({ Kind := 2, Handle := 7, S := [65, 85, 84, 72, 32, 115, 10], N := 0, Tenant := 0, Fault := ({ Name := ([] : List UInt8), Kind := 0, Short := 0 } : api.Fault), Lefts := ([] : List api.Left) } : api.Event), ({ Kind := 2, Handle := 8, S := [65, 85, 84, 72, 32, 116, 10], N := 0, Tenant := 0, Fault := ({ Name := ([] : List UInt8), Kind := 0, Short := 0 } : api.Fault), Lefts := ([] : List api.Left) } : api.Event), ({ Kind := 6, Handle := 0, S := ([] : List UInt8), N := 0, Tenant := 0, Fault := ({ Name := ([] : List UInt8), Kind := 0, Short := 0 } : api.Fault), Lefts := ([] : List api.Left) } : api.Event)]).bind fun r46 =>
   if (r46.length : Int) = 2 then
    (project.Tenant r28 [({ Kind := 1, Handle := 7, S := ([] : List UInt8), N := 0, Tenant := 0, Fault := ({ Name := ([] : List UInt8), Kind := 0, Short := 0 } : api.Fault), Lefts := ([] : List api.Left) } : api.Event), ({ Kind := 1, Handle := 8, S := ([] : List UInt8), N := 0, Tenant := 0, Fault := ({ Name := ([] : List UInt8), Kind := 0, Short := 0 } : api.Fault), Lefts := ([] : List api.Left) } : api.Event), ({ Kind := 2, Handle := 7, S := [65, 85, 84, 72, 32, 115, 10], N := 0, Tenant := 0, Fault := ({ Name := ([] : List UInt8), Kind := 0, Short := 0 } : api.Fault), Lefts := ([] : List api.Left) } : api.Event), ({ Kind := 2, Handle := 8, S := [65, 85, 84, 72, 32, 116, 10], N := 0, Tenant := 0, Fault := ({ Name := ([] : List UInt8), Kind := 0, Short := 0 } : api.Fault), Lefts := ([] : List api.Left) } : api.Event), ({ Kind := 6, Handle := 0, S := ([] : List UInt8), N := 0, Tenant := 0, Fault := ({ Name := ([] : List UInt8), Kind := 0, Short := 0 } : api.Fault), Lefts := ([] : List api.Left) } : api.Event)] 0).bind fun r49 =>
    need (InB 0 [({ Kind := 1, Handle := 7, S := ([] : List UInt8), N := 0, Tenant := 0, Fault := ({ Name := ([] : List UInt8), Kind := 0, Short := 0 } : api.Fault), Lefts := ([] : List api.Left) } : api.Event), ({ Kind := 1, Handle := 8, S := ([] : List UInt8), N := 0, Tenant := 0, Fault := ({ Name := ([] : List UInt8), Kind := 0, Short := 0 } : api.Fault), Lefts := ([] : List api.Left) } : api.Event), ({ Kind := 2, Handle := 7, S := [65, 85, 84, 72, 32, 115, 10], N := 0, Tenant := 0, Fault := ({ Name := ([] : List UInt8), Kind := 0, Short := 0 } : api.Fault), Lefts := ([] : List api.Left) } : api.Event), ({ Kind := 2, Handle := 8, S := [65, 85, 84, 72, 32, 116, 10], N := 0, Tenant := 0, Fault := ({ Name := ([] : List UInt8), Kind := 0, Short := 0 } : api.Fault), Lefts := ([] : List api.Left) } : api.Event), ({ Kind := 6, Handle := 0, S := ([] : List UInt8), N := 0, Tenant := 0, Fault := ({ Name := ([] : List UInt8), Kind := 0, Short := 0 } : api.Fault), Lefts := ([] : List api.Left) } : api.Event)].length) <|
    need (InB 2 [({ Kind := 1, Handle := 7, S := ([] : List UInt8), N := 0, Tenant := 0, Fault := ({ Name := ([] : List UInt8), Kind := 0, Short := 0 } : api.Fault), Lefts := ([] : List api.Left) } : api.Event), ({ Kind := 1, Handle := 8, S := ([] : List UInt8), N := 0, Tenant := 0, Fault := ({ Name := ([] : List UInt8), Kind := 0, Short := 0 } : api.Fault), Lefts := ([] : List api.Left) } : api.Event), ({ Kind := 2, Handle := 7, S := [65, 85, 84, 72, 32, 115, 10], N := 0, Tenant := 0, Fault := ({ Name := ([] : List UInt8), Kind := 0, Short := 0 } : api.Fault), Lefts := ([] : List api.Left) } : api.Event), ({ Kind := 2, Handle := 8, S := [65, 85, 84, 72, 32, 116, 10], N := 0, Tenant := 0, Fault := ({ Name := ([] : List UInt8), Kind := 0, Short := 0 } : api.Fault), Lefts := ([] : List api.Left) } : api.Event), ({ Kind := 6, Handle := 0, S := ([] : List UInt8), N := 0, Tenant := 0, Fault := ({ Name := ([] : List UInt8), Kind := 0, Short := 0 } : api.Fault), Lefts := ([] : List api.Left) } : api.Event)].length) <|
    need (InB 4 [({ Kind := 1, Handle := 7, S := ([] : List UInt8), N := 0, Tenant := 0, Fault := ({ Name := ([] : List UInt8), Kind := 0, Short := 0 } : api.Fault), Lefts := ([] : List api.Left) } : api.Event), ({ Kind := 1, Handle := 8, S := ([] : List UInt8), N := 0, Tenant := 0, Fault := ({ Name := ([] : List UInt8), Kind := 0, Short := 0 } : api.Fault), Lefts := ([] : List api.Left) } : api.Event), ({ Kind := 2, Handle := 7, S := [65, 85, 84, 72, 32, 115, 10], N := 0, Tenant := 0, Fault := ({ Name := ([] : List UInt8), Kind := 0, Short := 0 } : api.Fault), Lefts := ([] : List api.Left) } : api.Event), ({ Kind := 2, Handle := 8, S := [65, 85, 84, 72, 32, 116, 10], N := 0, Tenant := 0, Fault := ({ Name := ([] : List UInt8), Kind := 0, Short := 0 } : api.Fault), Lefts := ([] : List api.Left) } : api.Event), ({ Kind := 6, Handle := 0, S := ([] : List UInt8), N := 0, Tenant := 0, Fault := ({ Name := ([] : List UInt8), Kind := 0, Short := 0 } : api.Fault), Lefts := ([] : List api.Left) } : api.Event)].length) <|
    (project.Same r49 [({ Kind := (ix [({ Kind := 1, Handle := 7, S := ([] : List UInt8), N := 0, Tenant := 0, Fault := ({ Name := ([] : List UInt8), Kind := 0, Short := 0 } : api.Fault), Lefts := ([] : List api.Left) } : api.Event), ({ Kind := 1, Handle := 8, S := ([] : List UInt8), N := 0, Tenant := 0, Fault := ({ Name := ([] : List UInt8), Kind := 0, Short := 0 } : api.Fault), Lefts := ([] : List api.Left) } : api.Event), ({ Kind := 2, Handle := 7, S := [65, 85, 84, 72, 32, 115, 10], N := 0, Tenant := 0, Fault := ({ Name := ([] : List UInt8), Kind := 0, Short := 0 } : api.Fault), Lefts := ([] : List api.Left) } : api.Event), ({ Kind := 2, Handle := 8, S := [65, 85, 84, 72, 32, 116, 10], N := 0, Tenant := 0, Fault := ({ Name := ([] : List UInt8), Kind := 0, Short := 0 } : api.Fault), Lefts := ([] : List api.Left) } : api.Event), ({ Kind := 6, Handle := 0, S := ([] : List UInt8), N := 0, Tenant := 0, Fault := ({ Name := ([] : List UInt8), Kind := 0, Short := 0 } : api.Fault), Lefts := ([] : List api.Left) } : api.Event)] 0).Kind, Handle := (ix [({ Kind := 1, Handle := 7, S := ([] : List UInt8), N := 0, Tenant := 0, Fault := ({ Name := ([] : List UInt8), Kind := 0, Short := 0 } : api.Fault), Lefts := ([] : List api.Left) } : api.Event), ({ Kind := 1, Handle := 8, S := ([] : List UInt8), N := 0, Tenant := 0, Fault := ({ Name := ([] : List UInt8), Kind := 0, Short := 0 } : api.Fault), Lefts := ([] : List api.Left) } : api.Event), ({ Kind := 2, Handle := 7, S := [65, 85, 84, 72, 32, 115, 10], N := 0, Tenant := 0, Fault := ({ Name := ([] : List UInt8), Kind := 0, Short := 0 } : api.Fault), Lefts := ([] : List api.Left) } : api.Event), ({ Kind := 2, Handle := 8, S := [65, 85, 84, 72, 32, 116, 10], N := 0, Tenant := 0, Fault := ({ Name := ([] : List UInt8), Kind := 0, Short := 0 } : api.Fault), Lefts := ([] : List api.Left) } : api.Event), ({ Kind := 6, Handle := 0, S := ([] : List UInt8), N := 0, Tenant := 0, Fault := ({ Name := ([] : List UInt8), Kind := 0, Short := 0 } : api.Fault), Lefts := ([] : List api.Left) } : api.Event)] 0).Handle, S := (ix [({ Kind := 1, Handle := 7, S := ([] : List UInt8), N := 0, Tenant := 0, Fault := ({ Name := ([] : List UInt8), Kind := 0, Short := 0 } : api.Fault), Lefts := ([] : List api.Left) } : api.Event), ({ Kind := 1, Handle := 8, S := ([] : List UInt8), N := 0, Tenant := 0, Fault := ({ Name := ([] : List UInt8), Kind := 0, Short := 0 } : api.Fault), Lefts := ([] : List api.Left) } : api.Event), ({ Kind := 2, Handle := 7, S := [65, 85, 84, 72, 32, 115, 10], N := 0, Tenant := 0, Fault := ({ Name := ([] : List UInt8), Kind := 0, Short := 0 } : api.Fault), Lefts := ([] : List api.Left) } : api.Event), ({ Kind := 2, Handle := 8, S := [65, 85, 84, 72, 32, 116, 10], N := 0, Tenant := 0, Fault := ({ Name := ([] : List UInt8), Kind := 0, Short := 0 } : api.Fault), Lefts := ([] : List api.Left) } : api.Event), ({ Kind := 6, Handle := 0, S := ([] : List UInt8), N := 0, Tenant := 0, Fault := ({ Name := ([] : List UInt8), Kind := 0, Short := 0 } : api.Fault), Lefts := ([] : List api.Left) } : api.Event)] 0).S, N := (ix [({ Kind := 1, Handle := 7, S := ([] : List UInt8), N := 0, Tenant := 0, Fault := ({ Name := ([] : List UInt8), Kind := 0, Short := 0 } : api.Fault), Lefts := ([] : List api.Left) } : api.Event), ({ Kind := 1, Handle := 8, S := ([] : List UInt8), N := 0, Tenant := 0, Fault := ({ Name := ([] : List UInt8), Kind := 0, Short := 0 } : api.Fault), Lefts := ([] : List api.Left) } : api.Event), ({ Kind := 2, Handle := 7, S := [65, 85, 84, 72, 32, 115, 10], N := 0, Tenant := 0, Fault := ({ Name := ([] : List UInt8), Kind := 0, Short := 0 } : api.Fault), Lefts := ([] : List api.Left) } : api.Event), ({ Kind := 2, Handle := 8, S := [65, 85, 84, 72, 32, 116, 10], N := 0, Tenant := 0, Fault := ({ Name := ([] : List UInt8), Kind := 0, Short := 0 } : api.Fault), Lefts := ([] : List api.Left) } : api.Event), ({ Kind := 6, Handle := 0, S := ([] : List UInt8), N := 0, Tenant := 0, Fault := ({ Name := ([] : List UInt8), Kind := 0, Short := 0 } : api.Fault), Lefts := ([] : List api.Left) } : api.Event)] 0).N, Tenant := (ix [({ Kind := 1, Handle := 7, S := ([] : List UInt8), N := 0, Tenant := 0, Fault := ({ Name := ([] : List UInt8), Kind := 0, Short := 0 } : api.Fault), Lefts := ([] : List api.Left) } : api.Event), ({ Kind := 1, Handle := 8, S := ([] : List UInt8), N := 0, Tenant := 0, Fault := ({ Name := ([] : List UInt8), Kind := 0, Short := 0 } : api.Fault), Lefts := ([] : List api.Left) } : api.Event), ({ Kind := 2, Handle := 7, S := [65, 85, 84, 72, 32, 115, 10], N := 0, Tenant := 0, Fault := ({ Name := ([] : List UInt8), Kind := 0, Short := 0 } : api.Fault), Lefts := ([] : List api.Left) } : api.Event), ({ Kind := 2, Handle := 8, S := [65, 85, 84, 72, 32, 116, 10], N := 0, Tenant := 0, Fault := ({ Name := ([] : List UInt8), Kind := 0, Short := 0 } : api.Fault), Lefts := ([] : List api.Left) } : api.Event), ({ Kind := 6, Handle := 0, S := ([] : List UInt8), N := 0, Tenant := 0, Fault := ({ Name := ([] : List UInt8), Kind := 0, Short := 0 } : api.Fault), Lefts := ([] : List api.Left) } : api.Event)] 0).Tenant, Fault := ({ Name := (ix [({ Kind := 1, Handle := 7, S := ([] : List UInt8), N := 0, Tenant := 0, Fault := ({ Name := ([] : List UInt8), Kind := 0, Short := 0 } : api.Fault), Lefts := ([] : List api.Left) } : api.Event), ({ Kind := 1, Handle := 8, S := ([] : List UInt8), N := 0, Tenant := 0, Fault := ({ Name := ([] : List UInt8), Kind := 0, Short := 0 } : api.Fault), Lefts := ([] : List api.Left) } : api.Event), ({ Kind := 2, Handle := 7, S := [65, 85, 84, 72, 32, 115, 10], N := 0, Tenant := 0, Fault := ({ Name := ([] : List UInt8), Kind := 0, Short := 0 } : api.Fault), Lefts := ([] : List api.Left) } : api.Event), ({ Kind := 2, Handle := 8, S := [65, 85, 84, 72, 32, 116, 10], N := 0, Tenant := 0, Fault := ({ Name := ([] : List UInt8), Kind := 0, Short := 0 } : api.Fault), Lefts := ([] : List api.Left) } : api.Event), ({ Kind := 6, Handle := 0, S := ([] : List UInt8), N := 0, Tenant := 0, Fault := ({ Name := ([] : List UInt8), Kind := 0, Short := 0 } : api.Fault), Lefts := ([] : List api.Left) } : api.Event)] 0).Fault.Name, Kind := (ix [({ Kind := 1, Handle := 7, S := ([] : List UInt8), N := 0, Tenant := 0, Fault := ({ Name := ([] : List UInt8), Kind := 0, Short := 0 } : api.Fault), Lefts := ([] : List api.Left) } : api.Event), ({ Kind := 1, Handle := 8, S := ([] : List UInt8), N := 0, Tenant := 0, Fault := ({ Name := ([] : List UInt8), Kind := 0, Short := 0 } : api.Fault), Lefts := ([] : List api.Left) } : api.Event), ({ Kind := 2, Handle := 7, S := [65, 85, 84, 72, 32, 115, 10], N := 0, Tenant := 0, Fault := ({ Name := ([] : List UInt8), Kind := 0, Short := 0 } : api.Fault), Lefts := ([] : List api.Left) } : api.Event), ({ Kind := 2, Handle := 8, S := [65, 85, 84, 72, 32, 116, 10], N := 0, Tenant := 0, Fault := ({ Name := ([] : List UInt8), Kind := 0, Short := 0 } : api.Fault), Lefts := ([] : List api.Left) } : api.Event), ({ Kind := 6, Handle := 0, S := ([] : List UInt8), N := 0, Tenant := 0, Fault := ({ Name := ([] : List UInt8), Kind := 0, Short := 0 } : api.Fault), Lefts := ([] : List api.Left) } : api.Event)] 0).Fault.Kind, Short := (ix [({ Kind := 1, Handle := 7, S := ([] : List UInt8), N := 0, Tenant := 0, Fault := ({ Name := ([] : List UInt8), Kind := 0, Short := 0 } : api.Fault), Lefts := ([] : List api.Left) } : api.Event), ({ Kind := 1, Handle := 8, S := ([] : List UInt8), N := 0, Tenant := 0, Fault := ({ Name := ([] : List UInt8), Kind := 0, Short := 0 } : api.Fault), Lefts := ([] : List api.Left) } : api.Event), ({ Kind := 2, Handle := 7, S := [65, 85, 84, 72, 32, 115, 10], N := 0, Tenant := 0, Fault := ({ Name := ([] : List UInt8), Kind := 0, Short := 0 } : api.Fault), Lefts := ([] : List api.Left) } : api.Event), ({ Kind := 2, Handle := 8, S := [65, 85, 84, 72, 32, 116, 10], N := 0, Tenant := 0, Fault := ({ Name := ([] : List UInt8), Kind := 0, Short := 0 } : api.Fault), Lefts := ([] : List api.Left) } : api.Event), ({ Kind := 6, Handle := 0, S := ([] : List UInt8), N := 0, Tenant := 0, Fault := ({ Name := ([] : List UInt8), Kind := 0, Short := 0 } : api.Fault), Lefts := ([] : List api.Left) } : api.Event)] 0).Fault.Short } : api.Fault), Lefts := (ix [({ Kind := 1, Handle := 7, S := ([] : List UInt8), N := 0, Tenant := 0, Fault := ({ Name := ([] : List UInt8), Kind := 0, Short := 0 } : api.Fault), Lefts := ([] : List api.Left) } : api.Event), ({ Kind := 1, Handle := 8, S := ([] : List UInt8), N := 0, Tenant := 0, Fault := ({ Name := ([] : List UInt8), Kind := 0, Short := 0 } : api.Fault), Lefts := ([] : List api.Left) } : api.Event), ({ Kind := 2, Handle := 7, S := [65, 85, 84, 72, 32, 115, 10], N := 0, Tenant := 0, Fault := ({ Name := ([] : List UInt8), Kind := 0, Short := 0 } : api.Fault), Lefts := ([] : List api.Left) } : api.Event), ({ Kind := 2, Handle := 8, S := [65, 85, 84, 72, 32, 116, 10], N := 0, Tenant := 0, Fault := ({ Name := ([] : List UInt8), Kind := 0, Short := 0 } : api.Fault), Lefts := ([] : List api.Left) } : api.Event), ({ Kind := 6, Handle := 0, S := ([] : List UInt8), N := 0, Tenant := 0, Fault := ({ Name := ([] : List UInt8), Kind := 0, Short := 0 } : api.Fault), Lefts := ([] : List api.Left) } : api.Event)] 0).Lefts } : api.Event), ({ Kind := (ix [({ Kind := 1, Handle := 7, S := ([] : List UInt8), N := 0, Tenant := 0, Fault := ({ Name := ([] : List UInt8), Kind := 0, Short := 0 } : api.Fault), Lefts := ([] : List api.Left) } : api.Event), ({ Kind := 1, Handle := 8, S := ([] : List UInt8), N := 0, Tenant := 0, Fault := ({ Name := ([] : List UInt8), Kind := 0, Short := 0 } : api.Fault), Lefts := ([] : List api.Left) } : api.Event), ({ Kind := 2, Handle := 7, S := [65, 85, 84, 72, 32, 115, 10], N := 0, Tenant := 0, Fault := ({ Name := ([] : List UInt8), Kind := 0, Short := 0 } : api.Fault), Lefts := ([] : List api.Left) } : api.Event), ({ Kind := 2, Handle := 8, S := [65, 85, 84, 72, 32, 116, 10], N := 0, Tenant := 0, Fault := ({ Name := ([] : List UInt8), Kind := 0, Short := 0 } : api.Fault), Lefts := ([] : List api.Left) } : api.Event), ({ Kind := 6, Handle := 0, S := ([] : List UInt8), N := 0, Tenant := 0, Fault := ({ Name := ([] : List UInt8), Kind := 0, Short := 0 } : api.Fault), Lefts := ([] : List api.Left) } : api.Event)] 2).Kind, Handle := (ix [({ Kind := 1, Handle := 7, S := ([] : List UInt8), N := 0, Tenant := 0, Fault := ({ Name := ([] : List UInt8), Kind := 0, Short := 0 } : api.Fault), Lefts := ([] : List api.Left) } : api.Event), ({ Kind := 1, Handle := 8, S := ([] : List UInt8), N := 0, Tenant := 0, Fault := ({ Name := ([] : List UInt8), Kind := 0, Short := 0 } : api.Fault), Lefts := ([] : List api.Left) } : api.Event), ({ Kind := 2, Handle := 7, S := [65, 85, 84, 72, 32, 115, 10], N := 0, Tenant := 0, Fault := ({ Name := ([] : List UInt8), Kind := 0, Short := 0 } : api.Fault), Lefts := ([] : List api.Left) } : api.Event), ({ Kind := 2, Handle := 8, S := [65, 85, 84, 72, 32, 116, 10], N := 0, Tenant := 0, Fault := ({ Name := ([] : List UInt8), Kind := 0, Short := 0 } : api.Fault), Lefts := ([] : List api.Left) } : api.Event), ({ Kind := 6, Handle := 0, S := ([] : List UInt8), N := 0, Tenant := 0, Fault := ({ Name := ([] : List UInt8), Kind := 0, Short := 0 } : api.Fault), Lefts := ([] : List api.Left) } : api.Event)] 2).Handle, S := (ix [({ Kind := 1, Handle := 7, S := ([] : List UInt8), N := 0, Tenant := 0, Fault := ({ Name := ([] : List UInt8), Kind := 0, Short := 0 } : api.Fault), Lefts := ([] : List api.Left) } : api.Event), ({ Kind := 1, Handle := 8, S := ([] : List UInt8), N := 0, Tenant := 0, Fault := ({ Name := ([] : List UInt8), Kind := 0, Short := 0 } : api.Fault), Lefts := ([] : List api.Left) } : api.Event), ({ Kind := 2, Handle := 7, S := [65, 85, 84, 72, 32, 115, 10], N := 0, Tenant := 0, Fault := ({ Name := ([] : List UInt8), Kind := 0, Short := 0 } : api.Fault), Lefts := ([] : List api.Left) } : api.Event), ({ Kind := 2, Handle := 8, S := [65, 85, 84, 72, 32, 116, 10], N := 0, Tenant := 0, Fault := ({ Name := ([] : List UInt8), Kind := 0, Short := 0 } : api.Fault), Lefts := ([] : List api.Left) } : api.Event), ({ Kind := 6, Handle := 0, S := ([] : List UInt8), N := 0, Tenant := 0, Fault := ({ Name := ([] : List UInt8), Kind := 0, Short := 0 } : api.Fault), Lefts := ([] : List api.Left) } : api.Event)] 2).S, N := (ix [({ Kind := 1, Handle := 7, S := ([] : List UInt8), N := 0, Tenant := 0, Fault := ({ Name := ([] : List UInt8), Kind := 0, Short := 0 } : api.Fault), Lefts := ([] : List api.Left) } : api.Event), ({ Kind := 1, Handle := 8, S := ([] : List UInt8), N := 0, Tenant := 0, Fault := ({ Name := ([] : List UInt8), Kind := 0, Short := 0 } : api.Fault), Lefts := ([] : List api.Left) } : api.Event), ({ Kind := 2, Handle := 7, S := [65, 85, 84, 72, 32, 115, 10], N := 0, Tenant := 0, Fault := ({ Name := ([] : List UInt8), Kind := 0, Short := 0 } : api.Fault), Lefts := ([] : List api.Left) } : api.Event), ({ Kind := 2, Handle := 8, S := [65, 85, 84, 72, 32, 116, 10], N := 0, Tenant := 0, Fault := ({ Name := ([] : List UInt8), Kind := 0, Short := 0 } : api.Fault), Lefts := ([] : List api.Left) } : api.Event), ({ Kind := 6, Handle := 0, S := ([] : List UInt8), N := 0, Tenant := 0, Fault := ({ Name := ([] : List UInt8), Kind := 0, Short := 0 } : api.Fault), Lefts := ([] : List api.Left) } : api.Event)] 2).N, Tenant := (ix [({ Kind := 1, Handle := 7, S := ([] : List UInt8), N := 0, Tenant := 0, Fault := ({ Name := ([] : List UInt8), Kind := 0, Short := 0 } : api.Fault), Lefts := ([] : List api.Left) } : api.Event), ({ Kind := 1, Handle := 8, S := ([] : List UInt8), N := 0, Tenant := 0, Fault := ({ Name := ([] : List UInt8), Kind := 0, Short := 0 } : api.Fault), Lefts := ([] : List api.Left) } : api.Event), ({ Kind := 2, Handle := 7, S := [65, 85, 84, 72, 32, 115, 10], N := 0, Tenant := 0, Fault := ({ Name := ([] : List UInt8), Kind := 0, Short := 0 } : api.Fault), Lefts := ([] : List api.Left) } : api.Event), ({ Kind := 2, Handle := 8, S := [65, 85, 84, 72, 32, 116, 10], N := 0, Tenant := 0, Fault := ({ Name := ([] : List UInt8), Kind := 0, Short := 0 } : api.Fault), Lefts := ([] : List api.Left) } : api.Event), ({ Kind := 6, Handle := 0, S := ([] : List UInt8), N := 0, Tenant := 0, Fault := ({ Name := ([] : List UInt8), Kind := 0, Short := 0 } : api.Fault), Lefts := ([] : List api.Left) } : api.Event)] 2).Tenant, Fault := ({ Name := (ix [({ Kind := 1, Handle := 7, S := ([] : List UInt8), N := 0, Tenant := 0, Fault := ({ Name := ([] : List UInt8), Kind := 0, Short := 0 } : api.Fault), Lefts := ([] : List api.Left) } : api.Event), ({ Kind := 1, Handle := 8, S := ([] : List UInt8), N := 0, Tenant := 0, Fault := ({ Name := ([] : List UInt8), Kind := 0, Short := 0 } : api.Fault), Lefts := ([] : List api.Left) } : api.Event), ({ Kind := 2, Handle := 7, S := [65, 85, 84, 72, 32, 115, 10], N := 0, Tenant := 0, Fault := ({ Name := ([] : List UInt8), Kind := 0, Short := 0 } : api.Fault), Lefts := ([] : List api.Left) } : api.Event), ({ Kind := 2, Handle := 8, S := [65, 85, 84, 72, 32, 116, 10], N := 0, Tenant := 0, Fault := ({ Name := ([] : List UInt8), Kind := 0, Short := 0 } : api.Fault), Lefts := ([] : List api.Left) } : api.Event), ({ Kind := 6, Handle := 0, S := ([] : List UInt8), N := 0, Tenant := 0, Fault := ({ Name := ([] : List UInt8), Kind := 0, Short := 0 } : api.Fault), Lefts := ([] : List api.Left) } : api.Event)] 2).Fault.Name, Kind := (ix [({ Kind := 1, Handle := 7, S := ([] : List UInt8), N := 0, Tenant := 0, Fault := ({ Name := ([] : List UInt8), Kind := 0, Short := 0 } : api.Fault), Lefts := ([] : List api.Left) } : api.Event), ({ Kind := 1, Handle := 8, S := ([] : List UInt8), N := 0, Tenant := 0, Fault := ({ Name := ([] : List UInt8), Kind := 0, Short := 0 } : api.Fault), Lefts := ([] : List api.Left) } : api.Event), ({ Kind := 2, Handle := 7, S := [65, 85, 84, 72, 32, 115, 10], N := 0, Tenant := 0, Fault := ({ Name := ([] : List UInt8), Kind := 0, Short := 0 } : api.Fault), Lefts := ([] : List api.Left) } : api.Event), ({ Kind := 2, Handle := 8, S := [65, 85, 84, 72, 32, 116, 10], N := 0, Tenant := 0, Fault := ({ Name := ([] : List UInt8), Kind := 0, Short := 0 } : api.Fault), Lefts := ([] : List api.Left) } : api.Event), ({ Kind := 6, Handle := 0, S := ([] : List UInt8), N := 0, Tenant := 0, Fault := ({ Name := ([] : List UInt8), Kind := 0, Short := 0 } : api.Fault), Lefts := ([] : List api.Left) } : api.Event)] 2).Fault.Kind, Short := (ix [({ Kind := 1, Handle := 7, S := ([] : List UInt8), N := 0, Tenant := 0, Fault := ({ Name := ([] : List UInt8), Kind := 0, Short := 0 } : api.Fault), Lefts := ([] : List api.Left) } : api.Event), ({ Kind := 1, Handle := 8, S := ([] : List UInt8), N := 0, Tenant := 0, Fault := ({ Name := ([] : List UInt8), Kind := 0, Short := 0 } : api.Fault), Lefts := ([] : List api.Left) } : api.Event), ({ Kind := 2, Handle := 7, S := [65, 85, 84, 72, 32, 115, 10], N := 0, Tenant := 0, Fault := ({ Name := ([] : List UInt8), Kind := 0, Short := 0 } : api.Fault), Lefts := ([] : List api.Left) } : api.Event), ({ Kind := 2, Handle := 8, S := [65, 85, 84, 72, 32, 116, 10], N := 0, Tenant := 0, Fault := ({ Name := ([] : List UInt8), Kind := 0, Short := 0 } : api.Fault), Lefts := ([] : List api.Left) } : api.Event), ({ Kind := 6, Handle := 0, S := ([] : List UInt8), N := 0, Tenant := 0, Fault := ({ Name := ([] : List UInt8), Kind := 0, Short := 0 } : api.Fault), Lefts := ([] : List api.Left) } : api.Event)] 2).Fault.Short } : api.Fault), Lefts := (ix [({ Kind := 1, Handle := 7, S := ([] : List UInt8), N := 0, Tenant := 0, Fault := ({ Name := ([] : List UInt8), Kind := 0, Short := 0 } : api.Fault), Lefts := ([] : List api.Left) } : api.Event), ({ Kind := 1, Handle := 8, S := ([] : List UInt8), N := 0, Tenant := 0, Fault := ({ Name := ([] : List UInt8), Kind := 0, Short := 0 } : api.Fault), Lefts := ([] : List api.Left) } : api.Event), ({ Kind := 2, Handle := 7, S := [65, 85, 84, 72, 32, 115, 10], N := 0, Tenant := 0, Fault := ({ Name := ([] : List UInt8), Kind := 0, Short := 0 } : api.Fault), Lefts := ([] : List api.Left) } : api.Event), ({ Kind := 2, Handle := 8, S := [65, 85, 84, 72, 32, 116, 10], N := 0, Tenant := 0, Fault := ({ Name := ([] : List UInt8), Kind := 0, Short := 0 } : api.Fault), Lefts := ([] : List api.Left) } : api.Event), ({ Kind := 6, Handle := 0, S := ([] : List UInt8), N := 0, Tenant := 0, Fault := ({ Name := ([] : List UInt8), Kind := 0, Short := 0 } : api.Fault), Lefts := ([] : List api.Left) } : api.Event)] 2).Lefts } : api.Event), ({ Kind := (ix [({ Kind := 1, Handle := 7, S := ([] : List UInt8), N := 0, Tenant := 0, Fault := ({ Name := ([] : List UInt8), Kind := 0, Short := 0 } : api.Fault), Lefts := ([] : List api.Left) } : api.Event), ({ Kind := 1, Handle := 8, S := ([] : List UInt8), N := 0, Tenant := 0, Fault := ({ Name := ([] : List UInt8), Kind := 0, Short := 0 } : api.Fault), Lefts := ([] : List api.Left) } : api.Event), ({ Kind := 2, Handle := 7, S := [65, 85, 84, 72, 32, 115, 10], N := 0, Tenant := 0, Fault := ({ Name := ([] : List UInt8), Kind := 0, Short := 0 } : api.Fault), Lefts := ([] : List api.Left) } : api.Event), ({ Kind := 2, Handle := 8, S := [65, 85, 84, 72, 32, 116, 10], N := 0, Tenant := 0, Fault := ({ Name := ([] : List UInt8), Kind := 0, Short := 0 } : api.Fault), Lefts := ([] : List api.Left) } : api.Event), ({ Kind := 6, Handle := 0, S := ([] : List UInt8), N := 0, Tenant := 0, Fault := ({ Name := ([] : List UInt8), Kind := 0, Short := 0 } : api.Fault), Lefts := ([] : List api.Left) } : api.Event)] 4).Kind, Handle := (ix [({ Kind := 1, Handle := 7, S := ([] : List UInt8), N := 0, Tenant := 0, Fault := ({ Name := ([] : List UInt8), Kind := 0, Short := 0 } : api.Fault), Lefts := ([] : List api.Left) } : api.Event), ({ Kind := 1, Handle := 8, S := ([] : List UInt8), N := 0, Tenant := 0, Fault := ({ Name := ([] : List UInt8), Kind := 0, Short := 0 } : api.Fault), Lefts := ([] : List api.Left) } : api.Event), ({ Kind := 2, Handle := 7, S := [65, 85, 84, 72, 32, 115, 10], N := 0, Tenant := 0, Fault := ({ Name := ([] : List UInt8), Kind := 0, Short := 0 } : api.Fault), Lefts := ([] : List api.Left) } : api.Event), ({ Kind := 2, Handle := 8, S := [65, 85, 84, 72, 32, 116, 10], N := 0, Tenant := 0, Fault := ({ Name := ([] : List UInt8), Kind := 0, Short := 0 } : api.Fault), Lefts := ([] : List api.Left) } : api.Event), ({ Kind := 6, Handle := 0, S := ([] : List UInt8), N := 0, Tenant := 0, Fault := ({ Name := ([] : List UInt8), Kind := 0, Short := 0 } : api.Fault), Lefts := ([] : List api.Left) } : api.Event)] 4).Handle, S := (ix [({ Kind := 1, Handle := 7, S := ([] : List UInt8), N := 0, Tenant := 0, Fault := ({ Name := ([] : List UInt8), Kind := 0, Short := 0 } : api.Fault), Lefts := ([] : List api.Left) } : api.Event), ({ Kind := 1, Handle := 8, S := ([] : List UInt8), N := 0, Tenant := 0, Fault := ({ Name := ([] : List UInt8), Kind := 0, Short := 0 } : api.Fault), Lefts := ([] : List api.Left) } : api.Event), ({ Kind := 2, Handle := 7, S := [65, 85, 84, 72, 32, 115, 10], N := 0, Tenant := 0, Fault := ({ Name := ([] : List UInt8), Kind := 0, Short := 0 } : api.Fault), Lefts := ([] : List api.Left) } : api.Event), ({ Kind := 2, Handle := 8, S := [65, 85, 84, 72, 32, 116, 10], N := 0, Tenant := 0, Fault := ({ Name := ([] : List UInt8), Kind := 0, Short := 0 } : api.Fault), Lefts := ([] : List api.Left) } : api.Event), ({ Kind := 6, Handle := 0, S := ([] : List UInt8), N := 0, Tenant := 0, Fault := ({ Name := ([] : List UInt8), Kind := 0, Short := 0 } : api.Fault), Lefts := ([] : List api.Left) } : api.Event)] 4).S, N := (ix [({ Kind := 1, Handle := 7, S := ([] : List UInt8), N := 0, Tenant := 0, Fault := ({ Name := ([] : List UInt8), Kind := 0, Short := 0 } : api.Fault), Lefts := ([] : List api.Left) } : api.Event), ({ Kind := 1, Handle := 8, S := ([] : List UInt8), N := 0, Tenant := 0, Fault := ({ Name := ([] : List UInt8), Kind := 0, Short := 0 } : api.Fault), Lefts := ([] : List api.Left) } : api.Event), ({ Kind := 2, Handle := 7, S := [65, 85, 84, 72, 32, 115, 10], N := 0, Tenant := 0, Fault := ({ Name := ([] : List UInt8), Kind := 0, Short := 0 } : api.Fault), Lefts := ([] : List api.Left) } : api.Event), ({ Kind := 2, Handle := 8, S := [65, 85, 84, 72, 32, 116, 10], N := 0, Tenant := 0, Fault := ({ Name := ([] : List UInt8), Kind := 0, Short := 0 } : api.Fault), Lefts := ([] : List api.Left) } : api.Event), ({ Kind := 6, Handle := 0, S := ([] : List UInt8), N := 0, Tenant := 0, Fault := ({ Name := ([] : List UInt8), Kind := 0, Short := 0 } : api.Fault), Lefts := ([] : List api.Left) } : api.Event)] 4).N, Tenant := (ix [({ Kind := 1, Handle := 7, S := ([] : List UInt8), N := 0, Tenant := 0, Fault := ({ Name := ([] : List UInt8), Kind := 0, Short := 0 } : api.Fault), Lefts := ([] : List api.Left) } : api.Event), ({ Kind := 1, Handle := 8, S := ([] : List UInt8), N := 0, Tenant := 0, Fault := ({ Name := ([] : List UInt8), Kind := 0, Short := 0 } : api.Fault), Lefts := ([] : List api.Left) } : api.Event), ({ Kind := 2, Handle := 7, S := [65, 85, 84, 72, 32, 115, 10], N := 0, Tenant := 0, Fault := ({ Name := ([] : List UInt8), Kind := 0, Short := 0 } : api.Fault), Lefts := ([] : List api.Left) } : api.Event), ({ Kind := 2, Handle := 8, S := [65, 85, 84, 72, 32, 116, 10], N := 0, Tenant := 0, Fault := ({ Name := ([] : List UInt8), Kind := 0, Short := 0 } : api.Fault), Lefts := ([] : List api.Left) } : api.Event), ({ Kind := 6, Handle := 0, S := ([] : List UInt8), N := 0, Tenant := 0, Fault := ({ Name := ([] : List UInt8), Kind := 0, Short := 0 } : api.Fault), Lefts := ([] : List api.Left) } : api.Event)] 4).Tenant, Fault := ({ Name := (ix [({ Kind := 1, Handle := 7, S := ([] : List UInt8), N := 0, Tenant := 0, Fault := ({ Name := ([] : List UInt8), Kind := 0, Short := 0 } : api.Fault), Lefts := ([] : List api.Left) } : api.Event), ({ Kind := 1, Handle := 8, S := ([] : List UInt8), N := 0, Tenant := 0, Fault := ({ Name := ([] : List UInt8), Kind := 0, Short := 0 } : api.Fault), Lefts := ([] : List api.Left) } : api.Event), ({ Kind := 2, Handle := 7, S := [65, 85, 84, 72, 32, 115, 10], N := 0, Tenant := 0, Fault := ({ Name := ([] : List UInt8), Kind := 0, Short := 0 } : api.Fault), Lefts := ([] : List api.Left) } : api.Event), ({ Kind := 2, Handle := 8, S := [65, 85, 84, 72, 32, 116, 10], N := 0, Tenant := 0, Fault := ({ Name := ([] : List UInt8), Kind := 0, Short := 0 } : api.Fault), Lefts := ([] : List api.Left) } : api.Event), ({ Kind := 6, Handle := 0, S := ([] : List UInt8), N := 0, Tenant := 0, Fault := ({ Name := ([] : List UInt8), Kind := 0, Short := 0 } : api.Fault), Lefts := ([] : List api.Left) } : api.Event)] 4).Fault.Name, Kind := (ix [({ Kind := 1, Handle := 7, S := ([] : List UInt8), N := 0, Tenant := 0, Fault := ({ Name := ([] : List UInt8), Kind := 0, Short := 0 } : api.Fault), Lefts := ([] : List api.Left) } : api.Event), ({ Kind := 1, Handle := 8, S := ([] : List UInt8), N := 0, Tenant := 0, Fault := ({ Name := ([] : List UInt8), Kind := 0, Short := 0 } : api.Fault), Lefts := ([] : List api.Left) } : api.Event), ({ Kind := 2, Handle := 7, S := [65, 85, 84, 72, 32, 115, 10], N := 0, Tenant := 0, Fault := ({ Name := ([] : List UInt8), Kind := 0, Short := 0 } : api.Fault), Lefts := ([] : List api.Left) } : api.Event), ({ Kind := 2, Handle := 8, S := [65, 85, 84, 72, 32, 116, 10], N := 0, Tenant := 0, Fault := ({ Name := ([] : List UInt8), Kind := 0, Short := 0 } : api.Fault), Lefts := ([] : List api.Left) } : api.Event), ({ Kind := 6, Handle := 0, S := ([] : List UInt8), N := 0, Tenant := 0, Fault := ({ Name := ([] : List UInt8), Kind := 0, Short := 0 } : api.Fault), Lefts := ([] : List api.Left) } : api.Event)] 4).Fault.Kind, Short := (ix [({ Kind := 1, Handle := 7, S := ([] : List UInt8), N := 0, Tenant := 0, Fault := ({ Name := ([] : List UInt8), Kind := 0, Short := 0 } : api.Fault), Lefts := ([] : List api.Left) } : api.Event), ({ Kind := 1, Handle := 8, S := ([] : List UInt8), N := 0, Tenant := 0, Fault := ({ Name := ([] : List UInt8), Kind := 0, Short := 0 } : api.Fault), Lefts := ([] : List api.Left) } : api.Event), ({ Kind := 2, Handle := 7, S := [65, 85, 84, 72, 32, 115, 10], N := 0, Tenant := 0, Fault := ({ Name := ([] : List UInt8), Kind := 0, Short := 0 } : api.Fault), Lefts := ([] : List api.Left) } : api.Event), ({ Kind := 2, Handle := 8, S := [65, 85, 84, 72, 32, 116, 10], N := 0, Tenant := 0, Fault := ({ Name := ([] : List UInt8), Kind := 0, Short := 0 } : api.Fault), Lefts := ([] : List api.Left) } : api.Event), ({ Kind := 6, Handle := 0, S := ([] : List UInt8), N := 0, Tenant := 0, Fault := ({ Name := ([] : List UInt8), Kind := 0, Short := 0 } : api.Fault), Lefts := ([] : List api.Left) } : api.Event)] 4).Fault.Short } : api.Fault), Lefts := (ix [({ Kind := 1, Handle := 7, S := ([] : List UInt8), N := 0, Tenant := 0, Fault := ({ Name := ([] : List UInt8), Kind := 0, Short := 0 } : api.Fault), Lefts := ([] : List api.Left) } : api.Event), ({ Kind := 1, Handle := 8, S := ([] : List UInt8), N := 0, Tenant := 0, Fault := ({ Name := ([] : List UInt8), Kind := 0, Short := 0 } : api.Fault), Lefts := ([] : List api.Left) } : api.Event), ({ Kind := 2, Handle := 7, S := [65, 85, 84, 72, 32, 115, 10], N := 0, Tenant := 0, Fault := ({ Name := ([] : List UInt8), Kind := 0, Short := 0 } : api.Fault), Lefts := ([] : List api.Left) } : api.Event), ({ Kind := 2, Handle := 8, S := [65, 85, 84, 72, 32, 116, 10], N := 0, Tenant := 0, Fault := ({ Name := ([] : List UInt8), Kind := 0, Short := 0 } : api.Fault), Lefts := ([] : List api.Left) } : api.Event), ({ Kind := 6, Handle := 0, S := ([] : List UInt8), N := 0, Tenant := 0, Fault := ({ Name := ([] : List UInt8), Kind := 0, Short := 0 } : api.Fault), Lefts := ([] : List api.Left) } : api.Event)] 4).Lefts } : api.Event)]).bind fun r54 =>
    some r54
   else
    some false
  else
   some false).bind fun s41 =>
 some s41

structure mewsref49.opened.S0 where
 i : Int

def mewsref49.opened.body0 (l : List api.Event) (handle : Int) (s149 : mewsref49.opened.S0) : Option (mewsref49.opened.S0 ⊕ (Unit ⊕ Bool)) :=
 if s149.i < (l.length : Int) then
  (
   need (InB s149.i l.length) <|
   if (ix l s149.i).Kind = 1 then
    need (InB s149.i l.length) <|
    some (decide ((ix l s149.i).Handle = handle))
   else
    some false).bind fun s156 =>
  if s156 = true then
   some (.inr (.inr true))
  else
   some (.inl ⟨IntKind.wrap .i64 (s149.i + 1)⟩)
 else
  some (.inr (.inl ()))

def mewsref49.opened.loop0 (l : List api.Event) (handle : Int) (s149 : mewsref49.opened.S0) : Option (Unit ⊕ Bool) := whileO (mewsref49.opened.body0 l handle) s149

def mewsref49.opened (l : List api.Event) (handle : Int) : Option Bool :=
 (mewsref49.opened.loop0 l handle ⟨0⟩).bind fun s164 => onSum s164 (fun s122 =>
  some false) fun s164x => some s164x

structure mewsref48.Bytes.S0 where
 from_ : Int

def mewsref48.Bytes.body0 (l : List api.Event) (handle : Int) (s517 : mewsref48.Bytes.S0) : Option (mewsref48.Bytes.S0 ⊕ Int) :=
 (
  if s517.from_ < (l.length : Int) then
   need (InB s517.from_ l.length) <|
   if (ix l s517.from_).Kind = 1 then
    need (InB s517.from_ l.length) <|
    some (!decide ((ix l s517.from_).Handle = handle))
   else
    some true
  else
   some false).bind fun s525 =>
 if s525 = true then
  some (.inl ⟨IntKind.wrap .i64 (s517.from_ + 1)⟩)
 else
  some (.inr s517.from_)

def mewsref48.Bytes.loop0 (l : List api.Event) (handle : Int) (s517 : mewsref48.Bytes.S0) : Option Int := whileO (mewsref48.Bytes.body0 l handle) s517

structure mewsref48.Bytes.S2 where
 s : List UInt8
 i : Int

def mewsref48.Bytes.body2 (l : List api.Event) (handle : Int) (s829 : mewsref48.Bytes.S2) : Option (mewsref48.Bytes.S2 ⊕ ((List UInt8) ⊕ (List UInt8))) :=
 if s829.i < (l.length : Int) then
  (
   (
    need (InB s829.i l.length) <|
    if (ix l s829.i).Kind = 8 then
     some true
    else
     need (InB s829.i l.length) <|
     if (ix l s829.i).Kind = 4 then
      need (InB s829.i l.length) <|
      some (decide ((ix l s829.i).Handle = handle))
     else
      some false).bind fun s867 =>
   if s867 = true then
    some (.inr (.inr (.inr s829.s)))
   else
    (
     need (InB s829.i l.length) <|
     if (ix l s829.i).Kind = 2 then
      need (InB s829.i l.length) <|
      some (decide ((ix l s829.i).Handle = handle))
     else
      some false).bind fun s878 =>
    if s878 = true then
     need (InB s829.i l.length) <|
     need (s829.s.length + (ix l s829.i).S.length ≤ 9223372036854775807) <|
     some (.inl (s829.s ++ (ix l s829.i).S))
    else
     some (.inl s829.s)).bind fun s888 => onSum s888 (fun s859 =>
   some (.inl ⟨s859, IntKind.wrap .i64 (s829.i + 1)⟩)) fun s888x => some s888x
 else
  some (.inr (.inl s829.s))

def mewsref48.Bytes.loop2 (l : List api.Event) (handle : Int) (s829 : mewsref48.Bytes.S2) : Option ((List UInt8) ⊕ (List UInt8)) := whileO (mewsref48.Bytes.body2 l handle) s829

def mewsref48.Bytes (l : List api.Event) (handle : Int) : Option (List UInt8) :=
 (mewsref48.Bytes.loop0 l handle ⟨0⟩).bind fun s488 =>
 (mewsref48.Bytes.loop2 l handle ⟨([] : List UInt8), s488⟩).bind fun s890 => onSum s890 (fun s710 =>
  some s710) fun s890x => some s890x

def mewsref05.between (n_ : Int) (most : Int) : Option Int :=
 if n_ < 1 then
  some 1
 else
  if most < n_ then
   some most
  else
   some n_

def mewsref05.Limits (l : api.Limits) : Option api.Limits :=
 (mewsref05.between l.Args 65536).bind fun r8 =>
 (mewsref05.between l.Bulk 1048576).bind fun r9 =>
 (mewsref05.between l.Line 65536).bind fun r10 =>
 some ({ Args := r8, Bulk := r9, Line := r10 } : api.Limits)

def mewsref01.digits.rec : Nat → Int → Option (List UInt8)
 | 0, _ => none
 | kk + 1, n_ =>
  if (-10) < n_ then
   need (InR (IntKind.wrap .i64 (0 - (n_.tmod 10))) (IntKind.wrap .i64 ((IntKind.wrap .i64 (0 - (n_.tmod 10))) + 1)) [48, 49, 50, 51, 52, 53, 54, 55, 56, 57].length) <|
   letO (sub [48, 49, 50, 51, 52, 53, 54, 55, 56, 57] (IntKind.wrap .i64 (0 - (n_.tmod 10))) (IntKind.wrap .i64 ((IntKind.wrap .i64 (0 - (n_.tmod 10))) + 1))) fun x9 =>
   some x9
  else
   (mewsref01.digits.rec kk (IntKind.wrap .i64 (n_.tdiv 10))).bind fun r10 =>
   need (InR (IntKind.wrap .i64 (0 - (n_.tmod 10))) (IntKind.wrap .i64 ((IntKind.wrap .i64 (0 - (n_.tmod 10))) + 1)) [48, 49, 50, 51, 52, 53, 54, 55, 56, 57].length) <|
   letO (sub [48, 49, 50, 51, 52, 53, 54, 55, 56, 57] (IntKind.wrap .i64 (0 - (n_.tmod 10))) (IntKind.wrap .i64 ((IntKind.wrap .i64 (0 - (n_.tmod 10))) + 1))) fun x12 =>
   need (r10.length + x12.length ≤ 9223372036854775807) <|
   some (r10 ++ x12)

def mewsref01.digits (n_ : Int) : Option (List UInt8) := fixO fun kk => mewsref01.digits.rec kk n_

def mewsref01.Text (n_ : Int) : Option (List UInt8) :=
 if n_ < 0 then
  (mewsref01.digits n_).bind fun r5 =>
  need ([45].length + r5.length ≤ 9223372036854775807) <|
  some ([45] ++ r5)
 else
  (mewsref01.digits (IntKind.wrap .i64 (0 - n_))).bind fun r7 =>
  some r7

structure mewsref01.Parse.S0 where
 n : Int
 i : Int

def mewsref01.Parse.body0 (s_ : List UInt8) (s309 : Bool) (s550 : mewsref01.Parse.S0) : Option (mewsref01.Parse.S0 ⊕ (Int ⊕ (Int × Bool))) :=
 if s550.i < (s_.length : Int) then
  (
   letO (
    if s550.i = 0 then
     s309
    else
     false) fun s578 =>
   if s578 = true then
    some (.inl s550.n)
   else
    (
     need (InB s550.i s_.length) <|
     if (bix s_ s550.i) < 48 then
      some true
     else
      need (InB s550.i s_.length) <|
      some (decide (57 < (bix s_ s550.i)))).bind fun s585 =>
    if s585 = true then
     some (.inr (.inr (.inr (0, false))))
    else
     need (InB s550.i s_.length) <|
     letO (IntKind.wrap .i64 ((IntKind.wrap .i64 ((-9223372036854775808) + (IntKind.wrap .i64 (IntKind.wrap .u8 ((bix s_ s550.i) - 48))))).tdiv 10)) fun x592 =>
     if s550.n < x592 then
      some (.inr (.inr (.inr (0, false))))
     else
      letO (IntKind.wrap .i64 ((IntKind.wrap .i64 (s550.n * 10)) - (IntKind.wrap .i64 (IntKind.wrap .u8 ((bix s_ s550.i) - 48))))) fun x593 =>
      some (.inl x593)).bind fun s597 => onSum s597 (fun s574 =>
   some (.inl ⟨s574, IntKind.wrap .i64 (s550.i + 1)⟩)) fun s597x => some s597x
 else
  some (.inr (.inl s550.n))

def mewsref01.Parse.loop0 (s_ : List UInt8) (s309 : Bool) (s550 : mewsref01.Parse.S0) : Option (Int ⊕ (Int × Bool)) := whileO (mewsref01.Parse.body0 s_ s309) s550

def mewsref01.Parse (s_ : List UInt8) : Option (Int × Bool) :=
 (
  if 0 < (s_.length : Int) then
   need (InB 0 s_.length) <|
   some (decide ((bix s_ 0) = 45))
  else
   some false).bind fun s309 =>
 (mewsref01.Parse.loop0 s_ s309 ⟨0, 0⟩).bind fun s612 => onSum s612 (fun s455 =>
  letO (
   if (!s309) = true then
    decide (s455 = (-9223372036854775808))
   else
    false) fun s600 =>
  if s600 = true then
   some (0, false)
  else
   letO (
    if (!s309) = true then
     IntKind.wrap .i64 (0 - s455)
    else
     s455) fun s605 =>
   (mewsref01.Text s605).bind fun r609 =>
   if r609 = s_ then
    some (s605, true)
   else
    some (0, false)) fun s612x => some s612x

structure mewsref05.first.S0 where
 digits : Int

def mewsref05.first.body0 (s_ : List UInt8) (most : Int) (over : Int) (s355 : mewsref05.first.S0) : Option (mewsref05.first.S0 ⊕ (Int ⊕ (Int × Int × Int))) :=
 (
  if s355.digits < (s_.length : Int) then
   need (InB s355.digits s_.length) <|
   if 48 ≤ (bix s_ s355.digits) then
    need (InB s355.digits s_.length) <|
    some (decide ((bix s_ s355.digits) ≤ 57))
   else
    some false
  else
   some false).bind fun s363 =>
 if s363 = true then
  need (InR 1 (IntKind.wrap .i64 (s355.digits + 1)) s_.length) <|
  (mewsref01.Parse (sub s_ 1 (IntKind.wrap .i64 (s355.digits + 1)))).bind fun r371 =>
  (
   if (!r371.2) = true then
    need (InB 1 s_.length) <|
    some (decide ((bix s_ 1) = 48))
   else
    some false).bind fun s374 =>
  if s374 = true then
   some (.inr (.inr (0, 0, 5)))
  else
   letO (
    if (!r371.2) = true then
     true
    else
     decide (most < r371.1)) fun s380 =>
   if s380 = true then
    some (.inr (.inr (0, 0, over)))
   else
    some (.inl ⟨IntKind.wrap .i64 (s355.digits + 1)⟩)
 else
  some (.inr (.inl s355.digits))

def mewsref05.first.loop0 (s_ : List UInt8) (most : Int) (over : Int) (s355 : mewsref05.first.S0) : Option (Int ⊕ (Int × Int × Int)) := whileO (mewsref05.first.body0 s_ most over) s355

def mewsref05.first (s_ : List UInt8) (mark : Int) (most : Int) (over : Int) : Option (Int × Int × Int) :=
 if s_ = ([] : List UInt8) then
  some (0, 0, (-1))
 else
  need (InB 0 s_.length) <|
  if (bix s_ 0) = mark then
   (mewsref05.first.loop0 s_ most over ⟨1⟩).bind fun s402 => onSum s402 (fun s294 =>
    need (InR 1 s294 s_.length) <|
    (mewsref01.Parse (sub s_ 1 s294)).bind fun r388 =>
    need (InR s294 (s_.length : Int) s_.length) <|
    if (sub s_ s294 (s_.length : Int)) = ([] : List UInt8) then
     some (0, 0, (-1))
    else
     (
      if s294 = 1 then
       some true
      else
       need (InB 0 (sub s_ s294 (s_.length : Int)).length) <|
       some (!decide ((bix (sub s_ s294 (s_.length : Int)) 0) = 13))).bind fun s392 =>
     if s392 = true then
      some (0, 0, 5)
     else
      if ((sub s_ s294 (s_.length : Int)).length : Int) = 1 then
       some (0, 0, (-1))
      else
       need (InB 1 (sub s_ s294 (s_.length : Int)).length) <|
       if (bix (sub s_ s294 (s_.length : Int)) 1) = 10 then
        some (r388.1, IntKind.wrap .i64 (s294 + 2), 0)
       else
        some (0, 0, 5)) fun s402x => some s402x
  else
   some (0, 0, 5)

structure mewsref05.ends.S0 where
 i : Int

def mewsref05.ends.body0 (s_ : List UInt8) (s83 : mewsref05.ends.S0) : Option (mewsref05.ends.S0 ⊕ (Unit ⊕ Int)) :=
 if s83.i < 2 then
  if (s_.length : Int) ≤ s83.i then
   some (.inr (.inr (-1)))
  else
   need (InB s83.i s_.length) <|
   need (InB s83.i [13, 10].length) <|
   if (bix s_ s83.i) = (bix [13, 10] s83.i) then
    some (.inl ⟨IntKind.wrap .i64 (s83.i + 1)⟩)
   else
    some (.inr (.inr 5))
 else
  some (.inr (.inl ()))

def mewsref05.ends.loop0 (s_ : List UInt8) (s83 : mewsref05.ends.S0) : Option (Unit ⊕ Int) := whileO (mewsref05.ends.body0 s_) s83

def mewsref05.ends (s_ : List UInt8) : Option Int :=
 (mewsref05.ends.loop0 s_ ⟨0⟩).bind fun s92 => onSum s92 (fun s68 =>
  some 0) fun s92x => some s92x

structure mewsref05.many.S0 where
 c : List (List UInt8)
 c2 : Int
 c3 : Int

def mewsref05.many.body0 (s_ : List UInt8) (l : api.Limits) (s291 : mewsref05.many.S0) : Option (mewsref05.many.S0 ⊕ (((List (List UInt8)) × Int × Int) ⊕ (api.Input × Int))) :=
 if 0 < s291.c2 then
  need (InR s291.c3 (s_.length : Int) s_.length) <|
  (mewsref05.first (sub s_ s291.c3 (s_.length : Int)) 36 l.Bulk 6).bind fun r297 =>
  if r297.2.2 = 0 then
   need (InR (IntKind.wrap .i64 (s291.c3 + r297.2.1)) (s_.length : Int) s_.length) <|
   (
    if r297.1 ≤ ((sub s_ (IntKind.wrap .i64 (s291.c3 + r297.2.1)) (s_.length : Int)).length : Int) then
     need (InR r297.1 ((sub s_ (IntKind.wrap .i64 (s291.c3 + r297.2.1)) (s_.length : Int)).length : Int) (sub s_ (IntKind.wrap .i64 (s291.c3 + r297.2.1)) (s_.length : Int)).length) <|
     letO (sub (sub s_ (IntKind.wrap .i64 (s291.c3 + r297.2.1)) (s_.length : Int)) r297.1 ((sub s_ (IntKind.wrap .i64 (s291.c3 + r297.2.1)) (s_.length : Int)).length : Int)) fun x308 =>
     (mewsref05.ends x308).bind fun r309 =>
     some r309
    else
     some (-1)).bind fun s304 =>
   if s304 = 0 then
    need (InR 0 r297.1 (sub s_ (IntKind.wrap .i64 (s291.c3 + r297.2.1)) (s_.length : Int)).length) <|
    letO (sub (sub s_ (IntKind.wrap .i64 (s291.c3 + r297.2.1)) (s_.length : Int)) 0 r297.1) fun x312 =>
    need ((s291.c.length + [x312].length) * 16 ≤ 140737488355328) <|
    some (.inl ⟨s291.c ++ [x312], IntKind.wrap .i64 (s291.c2 - 1), IntKind.wrap .i64 ((IntKind.wrap .i64 (s291.c3 + r297.2.1)) + (IntKind.wrap .i64 (r297.1 + 2)))⟩)
   else
    some (.inr (.inr (({ Rest := sub s_ (IntKind.wrap .i64 (s291.c3 + r297.2.1)) (s_.length : Int), Args := s291.c, Left := s291.c2, Size := IntKind.wrap .i64 (s291.c3 + r297.2.1), Body := true, Need := r297.1, Dead := 0 } : api.Input), s304)))
  else
   need (InR s291.c3 (s_.length : Int) s_.length) <|
   some (.inr (.inr (({ Rest := sub s_ s291.c3 (s_.length : Int), Args := s291.c, Left := s291.c2, Size := s291.c3, Body := false, Need := 0, Dead := 0 } : api.Input), r297.2.2)))
 else
  some (.inr (.inl (s291.c, s291.c2, s291.c3)))

def mewsref05.many.loop0 (s_ : List UInt8) (l : api.Limits) (s291 : mewsref05.many.S0) : Option (((List (List UInt8)) × Int × Int) ⊕ (api.Input × Int)) := whileO (mewsref05.many.body0 s_ l) s291

def mewsref05.many (s_ : List UInt8) (l : api.Limits) : Option (api.Input × Int) :=
 (mewsref05.first s_ 42 l.Args 7).bind fun r163 =>
 if r163.2.2 = 0 then
  (mewsref05.many.loop0 s_ l ⟨([] : List (List UInt8)), r163.1, r163.2.1⟩).bind fun s319 => onSum s319 (fun s240 =>
   some (({ Rest := ([] : List UInt8), Args := s240.1, Left := s240.2.1, Size := s240.2.2, Body := false, Need := 0, Dead := 0 } : api.Input), 0)) fun s319x => some s319x
 else
  some (({ Rest := s_, Args := ([] : List (List UInt8)), Left := 0, Size := 0, Body := false, Need := 0, Dead := 0 } : api.Input), r163.2.2)

structure mewsref04.digit.S0 where
 i : Int

def mewsref04.digit.body0 (c_ : Int) (s149 : mewsref04.digit.S0) : Option (mewsref04.digit.S0 ⊕ (Unit ⊕ Int)) :=
 if s149.i < 16 then
  (
   need (InB s149.i [48, 49, 50, 51, 52, 53, 54, 55, 56, 57, 97, 98, 99, 100, 101, 102].length) <|
   if (bix [48, 49, 50, 51, 52, 53, 54, 55, 56, 57, 97, 98, 99, 100, 101, 102] s149.i) = c_ then
    some true
   else
    need (InB s149.i [48, 49, 50, 51, 52, 53, 54, 55, 56, 57, 65, 66, 67, 68, 69, 70].length) <|
    some (decide ((bix [48, 49, 50, 51, 52, 53, 54, 55, 56, 57, 65, 66, 67, 68, 69, 70] s149.i) = c_))).bind fun s156 =>
  if s156 = true then
   some (.inr (.inr s149.i))
  else
   some (.inl ⟨IntKind.wrap .i64 (s149.i + 1)⟩)
 else
  some (.inr (.inl ()))

def mewsref04.digit.loop0 (c_ : Int) (s149 : mewsref04.digit.S0) : Option (Unit ⊕ Int) := whileO (mewsref04.digit.body0 c_) s149

def mewsref04.digit (c_ : Int) : Option Int :=
 (mewsref04.digit.loop0 c_ ⟨0⟩).bind fun s164 => onSum s164 (fun s122 =>
  some 16) fun s164x => some s164x

structure mewsref04.turned.S0 where
 i : Int

def mewsref04.turned.body0 (c_ : Int) (s72 : mewsref04.turned.S0) : Option (mewsref04.turned.S0 ⊕ (Unit ⊕ Int)) :=
 if s72.i < ([110, 114, 116, 98, 97].length : Int) then
  need (InB s72.i [110, 114, 116, 98, 97].length) <|
  if (bix [110, 114, 116, 98, 97] s72.i) = c_ then
   need (InB s72.i [10, 13, 9, 8, 7].length) <|
   some (.inr (.inr (bix [10, 13, 9, 8, 7] s72.i)))
  else
   some (.inl ⟨IntKind.wrap .i64 (s72.i + 1)⟩)
 else
  some (.inr (.inl ()))

def mewsref04.turned.loop0 (c_ : Int) (s72 : mewsref04.turned.S0) : Option (Unit ⊕ Int) := whileO (mewsref04.turned.body0 c_) s72

def mewsref04.turned (c_ : Int) : Option Int :=
 (mewsref04.turned.loop0 c_ ⟨0⟩).bind fun s80 => onSum s80 (fun s59 =>
  some c_) fun s80x => some s80x

structure mewsref04.Split.S0 where
 out : List (List UInt8)
 in_ : Int
 open_ : Bool
 closed : Bool
 now : List UInt8
 i : Int

def mewsref04.Split.body0 (s_ : List UInt8) (s3033 : mewsref04.Split.S0) : Option (mewsref04.Split.S0 ⊕ (((List (List UInt8)) × Int × Bool × (List UInt8)) ⊕ ((List (List UInt8)) × Bool))) :=
 if s3033.i < (s_.length : Int) then
  (
   need (InB s3033.i s_.length) <|
   letO (
    if (bix s_ s3033.i) = 32 then
     true
    else
     decide ((bix s_ s3033.i) = 9)) fun s3142 =>
   letO (
    if s3033.closed = true then
     (!s3142)
    else
     false) fun s3147 =>
   if s3147 = true then
    some (.inr (.inr (.inr (([] : List (List UInt8)), false))))
   else
    letO (
     if s3033.in_ = 0 then
      s3142
     else
      false) fun s3153 =>
    if s3153 = true then
     (
      if s3033.open_ = true then
       need ((s3033.out.length + [s3033.now].length) * 16 ≤ 140737488355328) <|
       some (s3033.out ++ [s3033.now])
      else
       some s3033.out).bind fun s3160 =>
     some (.inl (s3160, s3033.in_, false, false, ([] : List UInt8), s3033.i))
    else
     letO (
      if s3033.in_ = 0 then
       if (bix s_ s3033.i) = 34 then
        true
       else
        decide ((bix s_ s3033.i) = 39)
      else
       false) fun s3169 =>
     if s3169 = true then
      some (.inl (s3033.out, bix s_ s3033.i, true, false, s3033.now, s3033.i))
     else
      if s3033.in_ = 0 then
       need (InR s3033.i (IntKind.wrap .i64 (s3033.i + 1)) s_.length) <|
       need (s3033.now.length + (sub s_ s3033.i (IntKind.wrap .i64 (s3033.i + 1))).length ≤ 9223372036854775807) <|
       some (.inl (s3033.out, s3033.in_, true, false, s3033.now ++ (sub s_ s3033.i (IntKind.wrap .i64 (s3033.i + 1))), s3033.i))
      else
       if (bix s_ s3033.i) = s3033.in_ then
        some (.inl (s3033.out, 0, s3033.open_, true, s3033.now, s3033.i))
       else
        (
         if (bix s_ s3033.i) = 92 then
          if s3033.in_ = 34 then
           if (IntKind.wrap .i64 (s3033.i + 3)) < (s_.length : Int) then
            need (InB (IntKind.wrap .i64 (s3033.i + 1)) s_.length) <|
            if (bix s_ (IntKind.wrap .i64 (s3033.i + 1))) = 120 then
             need (InB (IntKind.wrap .i64 (s3033.i + 2)) s_.length) <|
             (mewsref04.digit (bix s_ (IntKind.wrap .i64 (s3033.i + 2)))).bind fun r3195 =>
             if r3195 < 16 then
              need (InB (IntKind.wrap .i64 (s3033.i + 3)) s_.length) <|
              (mewsref04.digit (bix s_ (IntKind.wrap .i64 (s3033.i + 3)))).bind fun r3198 =>
              some (decide (r3198 < 16))
             else
              some false
            else
             some false
           else
            some false
          else
           some false
         else
          some false).bind fun s3186 =>
        if s3186 = true then
         need (InB (IntKind.wrap .i64 (s3033.i + 2)) s_.length) <|
         (mewsref04.digit (bix s_ (IntKind.wrap .i64 (s3033.i + 2)))).bind fun r3200 =>
         need (InB (IntKind.wrap .i64 (s3033.i + 3)) s_.length) <|
         (mewsref04.digit (bix s_ (IntKind.wrap .i64 (s3033.i + 3)))).bind fun r3202 =>
         need (IsU8 (IntKind.wrap .u8 (IntKind.wrap .i64 ((IntKind.wrap .i64 (16 * r3200)) + r3202)))) <|
         need (s3033.now.length + [u8 (IntKind.wrap .u8 (IntKind.wrap .i64 ((IntKind.wrap .i64 (16 * r3200)) + r3202)))].length ≤ 9223372036854775807) <|
         letO (s3033.now ++ [u8 (IntKind.wrap .u8 (IntKind.wrap .i64 ((IntKind.wrap .i64 (16 * r3200)) + r3202)))]) fun x3205 =>
         some (.inl (s3033.out, s3033.in_, s3033.open_, false, x3205, IntKind.wrap .i64 (s3033.i + 3)))
        else
         letO (
          if (bix s_ s3033.i) = 92 then
           if s3033.in_ = 34 then
            decide ((IntKind.wrap .i64 (s3033.i + 1)) < (s_.length : Int))
           else
            false
          else
           false) fun s3208 =>
         if s3208 = true then
          need (InB (IntKind.wrap .i64 (s3033.i + 1)) s_.length) <|
          (mewsref04.turned (bix s_ (IntKind.wrap .i64 (s3033.i + 1)))).bind fun r3214 =>
          need (IsU8 r3214) <|
          need (s3033.now.length + [u8 r3214].length ≤ 9223372036854775807) <|
          some (.inl (s3033.out, s3033.in_, s3033.open_, false, s3033.now ++ [u8 r3214], IntKind.wrap .i64 (s3033.i + 1)))
         else
          (
           if (bix s_ s3033.i) = 92 then
            if s3033.in_ = 39 then
             if (IntKind.wrap .i64 (s3033.i + 1)) < (s_.length : Int) then
              need (InB (IntKind.wrap .i64 (s3033.i + 1)) s_.length) <|
              some (decide ((bix s_ (IntKind.wrap .i64 (s3033.i + 1))) = 39))
             else
              some false
            else
             some false
           else
            some false).bind fun s3221 =>
          if s3221 = true then
           need (s3033.now.length + [39].length ≤ 9223372036854775807) <|
           some (.inl (s3033.out, s3033.in_, s3033.open_, false, s3033.now ++ [39], IntKind.wrap .i64 (s3033.i + 1)))
          else
           need (InR s3033.i (IntKind.wrap .i64 (s3033.i + 1)) s_.length) <|
           need (s3033.now.length + (sub s_ s3033.i (IntKind.wrap .i64 (s3033.i + 1))).length ≤ 9223372036854775807) <|
           some (.inl (s3033.out, s3033.in_, s3033.open_, false, s3033.now ++ (sub s_ s3033.i (IntKind.wrap .i64 (s3033.i + 1))), s3033.i))).bind fun s3239 => onSum s3239 (fun s3136 =>
   some (.inl ⟨s3136.1, s3136.2.1, s3136.2.2.1, s3136.2.2.2.1, s3136.2.2.2.2.1, IntKind.wrap .i64 (s3136.2.2.2.2.2 + 1)⟩)) fun s3239x => some s3239x
 else
  some (.inr (.inl (s3033.out, s3033.in_, s3033.open_, s3033.now)))

def mewsref04.Split.loop0 (s_ : List UInt8) (s3033 : mewsref04.Split.S0) : Option (((List (List UInt8)) × Int × Bool × (List UInt8)) ⊕ ((List (List UInt8)) × Bool)) := whileO (mewsref04.Split.body0 s_) s3033

def mewsref04.Split (s_ : List UInt8) : Option ((List (List UInt8)) × Bool) :=
 (mewsref04.Split.loop0 s_ ⟨([] : List (List UInt8)), 0, false, false, ([] : List UInt8), 0⟩).bind fun s3254 => onSum s3254 (fun s2432 =>
  if s2432.2.1 = 0 then
   (
    if s2432.2.2.1 = true then
     need ((s2432.1.length + [s2432.2.2.2].length) * 16 ≤ 140737488355328) <|
     some (s2432.1 ++ [s2432.2.2.2])
    else
     some s2432.1).bind fun s3246 =>
   some (s3246, true)
  else
   some (([] : List (List UInt8)), false)) fun s3254x => some s3254x

structure mewsref05.one.S0 where
 i : Int

structure mewsref05.one.S2 where
 k : Int

def mewsref05.one.body2 (r1652 : (List (List UInt8)) × Bool) (l : api.Limits) (s1680 : mewsref05.one.S2) : Option (mewsref05.one.S2 ⊕ (Unit ⊕ (Unit ⊕ (mewsref05.one.S0 ⊕ (Unit ⊕ (api.Input × Int)))))) :=
 if s1680.k < (r1652.1.length : Int) then
  need (InB s1680.k r1652.1.length) <|
  if l.Bulk < ((ix r1652.1 s1680.k).length : Int) then
   some (.inr (.inr (.inr (.inr (.inr (({ Rest := ([] : List UInt8), Args := ([] : List (List UInt8)), Left := 0, Size := 0, Body := false, Need := 0, Dead := 0 } : api.Input), 6))))))
  else
   some (.inl ⟨IntKind.wrap .i64 (s1680.k + 1)⟩)
 else
  some (.inr (.inl ()))

def mewsref05.one.loop2 (r1652 : (List (List UInt8)) × Bool) (l : api.Limits) (s1680 : mewsref05.one.S2) : Option (Unit ⊕ (Unit ⊕ (mewsref05.one.S0 ⊕ (Unit ⊕ (api.Input × Int))))) := whileO (mewsref05.one.body2 r1652 l) s1680

def mewsref05.one.body0 (s_ : List UInt8) (l : api.Limits) (s1551 : mewsref05.one.S0) : Option (mewsref05.one.S0 ⊕ (Unit ⊕ (api.Input × Int))) :=
 letO (
  if s1551.i < (s_.length : Int) then
   decide (s1551.i ≤ l.Line)
  else
   false) fun s1556 =>
 if s1556 = true then
  (
   need (InB s1551.i s_.length) <|
   if (bix s_ s1551.i) = 10 then
    need (InR 0 s1551.i s_.length) <|
    (
     (
      if 0 < s1551.i then
       need (InB (IntKind.wrap .i64 (s1551.i - 1)) (sub s_ 0 s1551.i).length) <|
       some (decide ((bix (sub s_ 0 s1551.i) (IntKind.wrap .i64 (s1551.i - 1))) = 13))
      else
       some false).bind fun s1644 =>
     if s1644 = true then
      need (InR 0 (IntKind.wrap .i64 (s1551.i - 1)) (sub s_ 0 s1551.i).length) <|
      letO (sub (sub s_ 0 s1551.i) 0 (IntKind.wrap .i64 (s1551.i - 1))) fun x1650 =>
      some x1650
     else
      some (sub s_ 0 s1551.i)).bind fun s1639 =>
    (mewsref04.Split s1639).bind fun r1652 =>
    if (!r1652.2) = true then
     some (.inr (.inr (.inr (({ Rest := ([] : List UInt8), Args := ([] : List (List UInt8)), Left := 0, Size := 0, Body := false, Need := 0, Dead := 0 } : api.Input), 16))))
    else
     if l.Args < (r1652.1.length : Int) then
      some (.inr (.inr (.inr (({ Rest := ([] : List UInt8), Args := ([] : List (List UInt8)), Left := 0, Size := 0, Body := false, Need := 0, Dead := 0 } : api.Input), 7))))
     else
      (mewsref05.one.loop2 r1652 l ⟨0⟩).bind fun s1687 => onSum s1687 (fun s1669 =>
       some (.inr (.inr (.inr (({ Rest := ([] : List UInt8), Args := r1652.1, Left := 0, Size := IntKind.wrap .i64 (s1551.i + 1), Body := false, Need := 0, Dead := 0 } : api.Input), 0))))) fun s1687x => some s1687x
   else
    some (.inl ())).bind fun s1691 => onSum s1691 (fun s1624 =>
   some (.inl ⟨IntKind.wrap .i64 (s1551.i + 1)⟩)) fun s1691x => some s1691x
 else
  some (.inr (.inl ()))

def mewsref05.one.loop0 (s_ : List UInt8) (l : api.Limits) (s1551 : mewsref05.one.S0) : Option (Unit ⊕ (api.Input × Int)) := whileO (mewsref05.one.body0 s_ l) s1551

def mewsref05.one (s_ : List UInt8) (l : api.Limits) : Option (api.Input × Int) :=
 (mewsref05.one.loop0 s_ l ⟨0⟩).bind fun s1694 => onSum s1694 (fun s1270 =>
  if l.Line < (s_.length : Int) then
   some (({ Rest := ([] : List UInt8), Args := ([] : List (List UInt8)), Left := 0, Size := 0, Body := false, Need := 0, Dead := 0 } : api.Input), 6)
  else
   some (({ Rest := s_, Args := ([] : List (List UInt8)), Left := 0, Size := 0, Body := false, Need := 0, Dead := 0 } : api.Input), (-1))) fun s1694x => some s1694x

structure mewsref05.All.S0 where
 s : List UInt8
 out : List api.Request

def mewsref05.All.body0 (r187 : api.Limits) (s336 : mewsref05.All.S0) : Option (mewsref05.All.S0 ⊕ ((List api.Request) ⊕ (api.Input × (List api.Request)))) :=
 if s336.s = ([] : List UInt8) then
  some (.inr (.inl s336.out))
 else
  (
   need (InB 0 s336.s.length) <|
   if (bix s336.s 0) = 42 then
    (mewsref05.many s336.s r187).bind fun r350 =>
    some (r350.2, r350.1.Rest, r350.1.Args, r350.1.Left, r350.1.Size, r350.1.Body, r350.1.Need, r350.1.Dead)
   else
    (mewsref05.one s336.s r187).bind fun r351 =>
    some (r351.2, r351.1.Rest, r351.1.Args, r351.1.Left, r351.1.Size, r351.1.Body, r351.1.Need, r351.1.Dead)).bind fun s346 =>
  if s346.1 = (-1) then
   some (.inr (.inr (({ Rest := s346.2.1, Args := s346.2.2.1, Left := s346.2.2.2.1, Size := s346.2.2.2.2.1, Body := s346.2.2.2.2.2.1, Need := s346.2.2.2.2.2.2.1, Dead := s346.2.2.2.2.2.2.2 } : api.Input), s336.out)))
  else
   if s346.1 = 0 then
    (
     if 0 < (s346.2.2.1.length : Int) then
      need ((s336.out.length + [({ Args := s346.2.2.1, Size := s346.2.2.2.2.1 } : api.Request)].length) * 32 ≤ 140737488355328) <|
      some (s336.out ++ [({ Args := s346.2.2.1, Size := s346.2.2.2.2.1 } : api.Request)])
     else
      some s336.out).bind fun s356 =>
    need (InR s346.2.2.2.2.1 (s336.s.length : Int) s336.s.length) <|
    some (.inl ⟨sub s336.s s346.2.2.2.2.1 (s336.s.length : Int), s356⟩)
   else
    some (.inr (.inr (({ Rest := ([] : List UInt8), Args := ([] : List (List UInt8)), Left := 0, Size := 0, Body := false, Need := 0, Dead := s346.1 } : api.Input), s336.out)))

def mewsref05.All.loop0 (r187 : api.Limits) (s336 : mewsref05.All.S0) : Option ((List api.Request) ⊕ (api.Input × (List api.Request))) := whileO (mewsref05.All.body0 r187) s336

def mewsref05.All (s_ : List UInt8) (l : api.Limits) : Option (api.Input × (List api.Request)) :=
 (mewsref05.Limits l).bind fun r187 =>
 (mewsref05.All.loop0 r187 ⟨s_, ([] : List api.Request)⟩).bind fun s368 => onSum s368 (fun s276 =>
  some (({ Rest := ([] : List UInt8), Args := ([] : List (List UInt8)), Left := 0, Size := 0, Body := false, Need := 0, Dead := 0 } : api.Input), s276)) fun s368x => some s368x

structure mewsref28.Upper.S0 where
 out : List UInt8
 i : Int

structure mewsref28.Upper.S2 where
 c : List UInt8
 k : Int

def mewsref28.Upper.body2 (s1017 : mewsref28.Upper.S0) (s_ : List UInt8) (s1093 : mewsref28.Upper.S2) : Option (mewsref28.Upper.S2 ⊕ (List UInt8)) :=
 if s1093.k < 26 then
  (
   need (InB s1017.i s_.length) <|
   need (InB s1093.k [97, 98, 99, 100, 101, 102, 103, 104, 105, 106, 107, 108, 109, 110, 111, 112, 113, 114, 115, 116, 117, 118, 119, 120, 121, 122].length) <|
   if (bix s_ s1017.i) = (bix [97, 98, 99, 100, 101, 102, 103, 104, 105, 106, 107, 108, 109, 110, 111, 112, 113, 114, 115, 116, 117, 118, 119, 120, 121, 122] s1093.k) then
    need (InR s1093.k (IntKind.wrap .i64 (s1093.k + 1)) [65, 66, 67, 68, 69, 70, 71, 72, 73, 74, 75, 76, 77, 78, 79, 80, 81, 82, 83, 84, 85, 86, 87, 88, 89, 90].length) <|
    some (sub [65, 66, 67, 68, 69, 70, 71, 72, 73, 74, 75, 76, 77, 78, 79, 80, 81, 82, 83, 84, 85, 86, 87, 88, 89, 90] s1093.k (IntKind.wrap .i64 (s1093.k + 1)))
   else
    some s1093.c).bind fun s1101 =>
  some (.inl ⟨s1101, IntKind.wrap .i64 (s1093.k + 1)⟩)
 else
  some (.inr s1093.c)

def mewsref28.Upper.loop2 (s1017 : mewsref28.Upper.S0) (s_ : List UInt8) (s1093 : mewsref28.Upper.S2) : Option (List UInt8) := whileO (mewsref28.Upper.body2 s1017 s_) s1093

def mewsref28.Upper.body0 (s_ : List UInt8) (s1017 : mewsref28.Upper.S0) : Option (mewsref28.Upper.S0 ⊕ (List UInt8)) :=
 if s1017.i < (s_.length : Int) then
  need (InR s1017.i (IntKind.wrap .i64 (s1017.i + 1)) s_.length) <|
  (mewsref28.Upper.loop2 s1017 s_ ⟨sub s_ s1017.i (IntKind.wrap .i64 (s1017.i + 1)), 0⟩).bind fun s1064 =>
  need (s1017.out.length + s1064.length ≤ 9223372036854775807) <|
  some (.inl ⟨s1017.out ++ s1064, IntKind.wrap .i64 (s1017.i + 1)⟩)
 else
  some (.inr s1017.out)

def mewsref28.Upper.loop0 (s_ : List UInt8) (s1017 : mewsref28.Upper.S0) : Option (List UInt8) := whileO (mewsref28.Upper.body0 s_) s1017

def mewsref28.Upper (s_ : List UInt8) : Option (List UInt8) :=
 (mewsref28.Upper.loop0 s_ ⟨([] : List UInt8), 0⟩).bind fun s832 =>
 some s832

structure mewsref42.Find.S0 where
 i : Int

def mewsref42.Find.body0 (c_ : api.Config) (token : List UInt8) (s63 : mewsref42.Find.S0) : Option (mewsref42.Find.S0 ⊕ (Unit ⊕ Int)) :=
 if s63.i < (c_.Tenants.length : Int) then
  need (InB s63.i c_.Tenants.length) <|
  if (ix c_.Tenants s63.i).Token = token then
   some (.inr (.inr s63.i))
  else
   some (.inl ⟨IntKind.wrap .i64 (s63.i + 1)⟩)
 else
  some (.inr (.inl ()))

def mewsref42.Find.loop0 (c_ : api.Config) (token : List UInt8) (s63 : mewsref42.Find.S0) : Option (Unit ⊕ Int) := whileO (mewsref42.Find.body0 c_ token) s63

def mewsref42.Find (c_ : api.Config) (token : List UInt8) : Option Int :=
 (mewsref42.Find.loop0 c_ token ⟨0⟩).bind fun s70 => onSum s70 (fun s52 =>
  some (-1)) fun s70x => some s70x

structure mewsref42.Told.S0 where
 n : Int

def mewsref42.Told.body0 (s_ : List UInt8) (c_ : api.Config) (s505 : mewsref42.Told.S0) : Option (mewsref42.Told.S0 ⊕ (Unit ⊕ (Int × Int × Int))) :=
 if s505.n ≤ (s_.length : Int) then
  (
   need (InR 0 s505.n s_.length) <|
   (mewsref05.All (sub s_ 0 s505.n) ({ Args := 16, Bulk := 1024, Line := 2048 } : api.Limits)).bind fun r532 =>
   if r532.1.Dead = 0 then
    if (r532.2.length : Int) = 0 then
     some (.inl ())
    else
     need (InB 0 r532.2.length) <|
     (
      if ((ix r532.2 0).Args.length : Int) = 2 then
       need (InB 0 (ix r532.2 0).Args.length) <|
       (mewsref28.Upper (ix (ix r532.2 0).Args 0)).bind fun r543 =>
       some (!decide (r543 = [65, 85, 84, 72]))
      else
       some true).bind fun s538 =>
     if s538 = true then
      some (.inr (.inr (.inr (s505.n, (-1), 2))))
     else
      need (InB 1 (ix r532.2 0).Args.length) <|
      (mewsref42.Find c_ (ix (ix r532.2 0).Args 1)).bind fun r545 =>
      if r545 < 0 then
       some (.inr (.inr (.inr (s505.n, (-1), 3))))
      else
       some (.inr (.inr (.inr (s505.n, r545, 1))))
   else
    some (.inr (.inr (.inr (s505.n, (-1), 4))))).bind fun s550 => onSum s550 (fun s528 =>
   some (.inl ⟨IntKind.wrap .i64 (s505.n + 1)⟩)) fun s550x => some s550x
 else
  some (.inr (.inl ()))

def mewsref42.Told.loop0 (s_ : List UInt8) (c_ : api.Config) (s505 : mewsref42.Told.S0) : Option (Unit ⊕ (Int × Int × Int)) := whileO (mewsref42.Told.body0 s_ c_) s505

def mewsref42.Told (c_ : api.Config) (s_ : List UInt8) : Option (Int × Int × Int) :=
 (mewsref42.Told.loop0 s_ c_ ⟨1⟩).bind fun s552 => onSum s552 (fun s414 =>
  some ((s_.length : Int), (-1), 0)) fun s552x => some s552x

def mewsref49.Of (c_ : api.Config) (l : List api.Event) (handle : Int) : Option Int :=
 (mewsref49.opened l handle).bind fun r7 =>
 if (!r7) = true then
  some (-1)
 else
  (mewsref48.Bytes l handle).bind fun r8 =>
  (mewsref42.Told c_ r8).bind fun r9 =>
  some r9.2.1

structure mewsref49.Labels.S0 where
 out : List api.Label
 i : Int

structure mewsref49.Labels.S2 where
 k : Int

def mewsref49.Labels.body2 (s1930 : mewsref49.Labels.S0) (l : List api.Event) (s2075 : mewsref49.Labels.S2) : Option (mewsref49.Labels.S2 ⊕ Int) :=
 (
  if s2075.k < (s1930.out.length : Int) then
   need (InB s2075.k s1930.out.length) <|
   some (decide ((ix s1930.out s2075.k).Handle < (ix l s1930.i).Handle))
  else
   some false).bind fun s2081 =>
 if s2081 = true then
  some (.inl ⟨IntKind.wrap .i64 (s2075.k + 1)⟩)
 else
  some (.inr s2075.k)

def mewsref49.Labels.loop2 (s1930 : mewsref49.Labels.S0) (l : List api.Event) (s2075 : mewsref49.Labels.S2) : Option Int := whileO (mewsref49.Labels.body2 s1930 l) s2075

def mewsref49.Labels.body0 (l : List api.Event) (c_ : api.Config) (s1930 : mewsref49.Labels.S0) : Option (mewsref49.Labels.S0 ⊕ (List api.Label)) :=
 if s1930.i < (l.length : Int) then
  (
   need (InB s1930.i l.length) <|
   need (InB s1930.i l.length) <|
   if (ix l s1930.i).Kind = 1 then
    (mewsref49.Labels.loop2 s1930 l ⟨0⟩).bind fun s2054 =>
    (
     if s2054 < (s1930.out.length : Int) then
      need (InB s2054 s1930.out.length) <|
      some (decide ((ix s1930.out s2054).Handle = (ix l s1930.i).Handle))
     else
      some false).bind fun s2089 =>
    if s2089 = true then
     some s1930.out
    else
     need (InR 0 s2054 s1930.out.length) <|
     need ((([] : List api.Label).length + (sub s1930.out 0 s2054).length) * 16 ≤ 140737488355328) <|
     (mewsref49.Of c_ l (ix l s1930.i).Handle).bind fun r2097 =>
     need (((([] : List api.Label) ++ (sub s1930.out 0 s2054)).length + [({ Handle := (ix l s1930.i).Handle, Tenant := r2097 } : api.Label)].length) * 16 ≤ 140737488355328) <|
     need (InR s2054 (s1930.out.length : Int) s1930.out.length) <|
     need ((((([] : List api.Label) ++ (sub s1930.out 0 s2054)) ++ [({ Handle := (ix l s1930.i).Handle, Tenant := r2097 } : api.Label)]).length + (sub s1930.out s2054 (s1930.out.length : Int)).length) * 16 ≤ 140737488355328) <|
     some (((([] : List api.Label) ++ (sub s1930.out 0 s2054)) ++ [({ Handle := (ix l s1930.i).Handle, Tenant := r2097 } : api.Label)]) ++ (sub s1930.out s2054 (s1930.out.length : Int)))
   else
    some s1930.out).bind fun s2018 =>
  some (.inl ⟨s2018, IntKind.wrap .i64 (s1930.i + 1)⟩)
 else
  some (.inr s1930.out)

def mewsref49.Labels.loop0 (l : List api.Event) (c_ : api.Config) (s1930 : mewsref49.Labels.S0) : Option (List api.Label) := whileO (mewsref49.Labels.body0 l c_) s1930

def mewsref49.Labels (c_ : api.Config) (l : List api.Event) : Option (List api.Label) :=
 (mewsref49.Labels.loop0 l c_ ⟨([] : List api.Label), 0⟩).bind fun s1579 =>
 some s1579

structure mewsref49.Tenant.S0 where
 out : List api.Event
 k : Int

structure mewsref49.Tenant.S2 where
 own : List api.Left
 n : Int

def mewsref49.Tenant.body2 (l : List api.Event) (s9028 : mewsref49.Tenant.S0) (s4927 : Bool) (i : Int) (s9808 : mewsref49.Tenant.S2) : Option (mewsref49.Tenant.S2 ⊕ (List api.Left)) :=
 if s9808.n < ((ix l s9028.k).Lefts.length : Int) then
  (
   (
    if s4927 = true then
     need (InB s9808.n (ix l s9028.k).Lefts.length) <|
     some (decide ((ix (ix l s9028.k).Lefts s9808.n).Tenant = i))
    else
     some false).bind fun s9830 =>
   if s9830 = true then
    need (InB s9808.n (ix l s9028.k).Lefts.length) <|
    need ((s9808.own.length + [({ Tenant := (ix (ix l s9028.k).Lefts s9808.n).Tenant, Keep := ({ Name := (ix (ix l s9028.k).Lefts s9808.n).Keep.Name, Bytes := (ix (ix l s9028.k).Lefts s9808.n).Keep.Bytes } : api.Keep) } : api.Left)].length) * 32 ≤ 140737488355328) <|
    some (s9808.own ++ [({ Tenant := (ix (ix l s9028.k).Lefts s9808.n).Tenant, Keep := ({ Name := (ix (ix l s9028.k).Lefts s9808.n).Keep.Name, Bytes := (ix (ix l s9028.k).Lefts s9808.n).Keep.Bytes } : api.Keep) } : api.Left)])
   else
    some s9808.own).bind fun s9824 =>
  some (.inl ⟨s9824, IntKind.wrap .i64 (s9808.n + 1)⟩)
 else
  some (.inr s9808.own)

def mewsref49.Tenant.loop2 (l : List api.Event) (s9028 : mewsref49.Tenant.S0) (s4927 : Bool) (i : Int) (s9808 : mewsref49.Tenant.S2) : Option (List api.Left) := whileO (mewsref49.Tenant.body2 l s9028 s4927 i) s9808

def mewsref49.Tenant.body0 (l : List api.Event) (s4927 : Bool) (c_ : api.Config) (i : Int) (s9028 : mewsref49.Tenant.S0) : Option (mewsref49.Tenant.S0 ⊕ (List api.Event)) :=
 if s9028.k < (l.length : Int) then
  (
   need (InB s9028.k l.length) <|
   letO (
    if (ix l s9028.k).Kind < 1 then
     true
    else
     decide (8 < (ix l s9028.k).Kind)) fun s9445 =>
   if s9445 = true then
    some s9028.out
   else
    (
     if (ix l s9028.k).Kind ≤ 4 then
      if (!s4927) = true then
       some true
      else
       (mewsref49.Of c_ l (ix l s9028.k).Handle).bind fun r9457 =>
       some (!decide (r9457 = i))
     else
      some false).bind fun s9452 =>
    if s9452 = true then
     some s9028.out
    else
     letO (
      if (ix l s9028.k).Kind = 7 then
       if (!s4927) = true then
        true
       else
        (!decide ((ix l s9028.k).Tenant = i))
      else
       false) fun s9460 =>
     if s9460 = true then
      some s9028.out
     else
      (
       if (ix l s9028.k).Kind = 8 then
        (mewsref49.Tenant.loop2 l s9028 s4927 i ⟨([] : List api.Left), 0⟩).bind fun s9746 =>
        some s9746
       else
        some (ix l s9028.k).Lefts).bind fun s9652 =>
      need ((s9028.out.length + [{ (ix l s9028.k) with Lefts := s9652 }].length) * 104 ≤ 140737488355328) <|
      some (s9028.out ++ [{ (ix l s9028.k) with Lefts := s9652 }])).bind fun s9438 =>
  some (.inl ⟨s9438, IntKind.wrap .i64 (s9028.k + 1)⟩)
 else
  some (.inr s9028.out)

def mewsref49.Tenant.loop0 (l : List api.Event) (s4927 : Bool) (c_ : api.Config) (i : Int) (s9028 : mewsref49.Tenant.S0) : Option (List api.Event) := whileO (mewsref49.Tenant.body0 l s4927 c_ i) s9028

def mewsref49.Tenant (c_ : api.Config) (l : List api.Event) (i : Int) : Option (List api.Event) :=
 letO (
  if 0 ≤ i then
   decide (i < (c_.Tenants.length : Int))
  else
   false) fun s4927 =>
 (mewsref49.Tenant.loop0 l s4927 c_ i ⟨([] : List api.Event), 0⟩).bind fun s7388 =>
 some s7388

structure mewsref47.Same.S0 where
 i : Int

def mewsref47.Same.body0 (a : api.Event) (b : api.Event) (s90 : mewsref47.Same.S0) : Option (mewsref47.Same.S0 ⊕ (Unit ⊕ Bool)) :=
 if s90.i < (a.Lefts.length : Int) then
  need (InB s90.i a.Lefts.length) <|
  need (InB s90.i b.Lefts.length) <|
  if (ix a.Lefts s90.i) = (ix b.Lefts s90.i) then
   some (.inl ⟨IntKind.wrap .i64 (s90.i + 1)⟩)
  else
   some (.inr (.inr false))
 else
  some (.inr (.inl ()))

def mewsref47.Same.loop0 (a : api.Event) (b : api.Event) (s90 : mewsref47.Same.S0) : Option (Unit ⊕ Bool) := whileO (mewsref47.Same.body0 a b) s90

def mewsref47.Same (a : api.Event) (b : api.Event) : Option Bool :=
 if (a.Lefts.length : Int) = (b.Lefts.length : Int) then
  (mewsref47.Same.loop0 a b ⟨0⟩).bind fun s111 => onSum s111 (fun s77 =>
   letO (
    if a.Kind = b.Kind then
     if a.Handle = b.Handle then
      if a.S = b.S then
       if a.N = b.N then
        if a.Tenant = b.Tenant then
         decide (a.Fault = b.Fault)
        else
         false
       else
        false
      else
       false
     else
      false
    else
     false) fun s103 =>
   some s103) fun s111x => some s111x
 else
  some false

structure mewsref48.Same.S0 where
 i : Int

def mewsref48.Same.body0 (a : List api.Event) (b : List api.Event) (s84 : mewsref48.Same.S0) : Option (mewsref48.Same.S0 ⊕ (Unit ⊕ Bool)) :=
 if s84.i < (a.length : Int) then
  need (InB s84.i a.length) <|
  need (InB s84.i b.length) <|
  (mewsref47.Same (ix a s84.i) (ix b s84.i)).bind fun r90 =>
  if (!r90) = true then
   some (.inr (.inr false))
  else
   some (.inl ⟨IntKind.wrap .i64 (s84.i + 1)⟩)
 else
  some (.inr (.inl ()))

def mewsref48.Same.loop0 (a : List api.Event) (b : List api.Event) (s84 : mewsref48.Same.S0) : Option (Unit ⊕ Bool) := whileO (mewsref48.Same.body0 a b) s84

def mewsref48.Same (a : List api.Event) (b : List api.Event) : Option Bool :=
 if (a.length : Int) = (b.length : Int) then
  (mewsref48.Same.loop0 a b ⟨0⟩).bind fun s93 => onSum s93 (fun s69 =>
   some true) fun s93x => some s93x
 else
  some false

structure mewslaw49.ProjectSays.S0 where
 t30 : Int

def mewslaw49.ProjectSays.body0 (r80 : List api.Label) (r82 : List api.Label) (s115 : mewslaw49.ProjectSays.S0) : Option (mewslaw49.ProjectSays.S0 ⊕ (Unit ⊕ Bool)) :=
 if s115.t30 < (r80.length : Int) then
  need (InB s115.t30 r80.length) <|
  need (InB s115.t30 r82.length) <|
  if (ix r80 s115.t30) = (ix r82 s115.t30) then
   some (.inl ⟨IntKind.wrap .i64 (s115.t30 + 1)⟩)
  else
   some (.inr (.inr false))
 else
  some (.inr (.inl ()))

def mewslaw49.ProjectSays.loop0 (r80 : List api.Label) (r82 : List api.Label) (s115 : mewslaw49.ProjectSays.S0) : Option (Unit ⊕ Bool) := whileO (mewslaw49.ProjectSays.body0 r80 r82) s115

def mewslaw49.ProjectSays (c_ : api.Config) (l : List api.Event) (i : Int) (handle : Int) : Option Bool :=
 (mewslaw46.Far c_ l).bind fun r78 =>
 if r78 = true then
  (mewslaw49.alive).bind fun r79 =>
  some r79
 else
  (project.Labels c_ l).bind fun r80 =>
  (mewsref49.Labels c_ l).bind fun r82 =>
  if (r80.length : Int) = (r82.length : Int) then
   (mewslaw49.ProjectSays.loop0 r80 r82 ⟨0⟩).bind fun s150 => onSum s150 (fun s102 =>
    (mewsref49.Tenant c_ l i).bind fun r123 =>
    (
     (project.Tenant c_ l i).bind fun r139 =>
     (mewsref48.Same r139 r123).bind fun r141 =>
     if r141 = true then
      (project.Of c_ l handle).bind fun r143 =>
      (mewsref49.Of c_ l handle).bind fun r144 =>
      if r143 = r144 then
       (project.Same l r123).bind fun r146 =>
       (mewsref48.Same l r123).bind fun r147 =>
       if (r146 == r147) = true then
        (mewslaw49.alive).bind fun r149 =>
        some r149
       else
        some false
      else
       some false
     else
      some false).bind fun s136 =>
    some s136) fun s150x => some s150x
  else
   some false

end Go.Pu
