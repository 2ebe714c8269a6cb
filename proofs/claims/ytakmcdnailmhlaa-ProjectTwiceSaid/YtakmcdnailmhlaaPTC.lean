/- Printed by lift.py: the same functions, with rounds that are counted. -/
import Derived.Test.YtakmcdnailmhlaaPTP
set_option maxRecDepth 100000
set_option maxHeartbeats 0
namespace Go.Pu
open Go.Lift

def mewslaw46.Some.c (k : Nat)  : Option api.Config :=
 some ({ Tenants := [({ Name := [97], Token := [115], Memory := 5000, Policy := 0, Conns := 3, In := 1000, Out := 1000, Burst := 50, Rate := 1, Disk := 5000, Sync := 1, Limits := ({ Args := 9, Bulk := 99, Line := 99 } : api.Limits) } : api.Tenant), ({ Name := [98], Token := [116], Memory := 5000, Policy := 0, Conns := 3, In := 1000, Out := 1000, Burst := 50, Rate := 1, Disk := 5000, Sync := 3, Limits := ({ Args := 9, Bulk := 99, Line := 99 } : api.Limits) } : api.Tenant)], Quantum := 2, Deadline := 100 } : api.Config)

theorem mewslaw46.Some.c_le (k : Nat)  : OLe (mewslaw46.Some.c k ) (mewslaw46.Some ) := by
 unfold mewslaw46.Some.c mewslaw46.Some
 repeat' with_reducible first | exact OLe.refl _ | apply OLe.bind | apply OLe.need | apply OLe.letO | apply OLe.onSum | apply OLe.ite | intro _

def script.Bytes.body0.c (k : Nat) (l : List api.Event) (handle : Int) (s809 : script.Bytes.S0) : Option (script.Bytes.S0 ⊕ ((List UInt8) ⊕ (List UInt8))) :=
 if s809.t11 < (l.length : Int) then
  (
   need (InB s809.t11 l.length) <|
   letO (
    if s809.open_ = true then
     if (ix l s809.t11).Kind = 8 then
      true
     else
      if (ix l s809.t11).Kind = 4 then
       decide ((ix l s809.t11).Handle = handle)
      else
       false
    else
     false) fun s848 =>
   if s848 = true then
    some (.inr (.inr (.inr s809.s)))
   else
    letO (
     if (ix l s809.t11).Kind = 1 then
      decide ((ix l s809.t11).Handle = handle)
     else
      false) fun s855 =>
    if s855 = true then
     some (.inl (s809.s, true))
    else
     letO (
      if s809.open_ = true then
       if (ix l s809.t11).Kind = 2 then
        decide ((ix l s809.t11).Handle = handle)
       else
        false
      else
       false) fun s861 =>
     if s861 = true then
      need (s809.s.length + (ix l s809.t11).S.length ≤ 9223372036854775807) <|
      some (.inl (s809.s ++ (ix l s809.t11).S, s809.open_))
     else
      some (.inl (s809.s, s809.open_))).bind fun s870 => onSum s870 (fun s840 =>
   some (.inl ⟨s840.1, s840.2, IntKind.wrap .i64 (s809.t11 + 1)⟩)) fun s870x => some s870x
 else
  some (.inr (.inl s809.s))

theorem script.Bytes.body0.c_le (k : Nat) (l : List api.Event) (handle : Int) (s809 : script.Bytes.S0) : OLe (script.Bytes.body0.c k l handle s809) (script.Bytes.body0 l handle s809) := by
 unfold script.Bytes.body0.c script.Bytes.body0
 repeat' with_reducible first | exact OLe.refl _ | apply OLe.bind | apply OLe.need | apply OLe.letO | apply OLe.onSum | apply OLe.ite | intro _

def script.Bytes.loop0.c (k : Nat) (l : List api.Event) (handle : Int) (s809 : script.Bytes.S0) : Option ((List UInt8) ⊕ (List UInt8)) := iterO (script.Bytes.body0.c k l handle) k s809

theorem script.Bytes.loop0.c_le (k : Nat) (l : List api.Event) (handle : Int) (s809 : script.Bytes.S0) : OLe (script.Bytes.loop0.c k l handle s809) (script.Bytes.loop0 l handle s809) := by
 unfold script.Bytes.loop0.c script.Bytes.loop0
 exact OLe.iter (fun s => script.Bytes.body0.c_le k l handle s) k _

def script.Bytes.c (k : Nat) (l : List api.Event) (handle : Int) : Option (List UInt8) :=
 (script.Bytes.loop0.c k l handle ⟨([] : List UInt8), false, 0⟩).bind fun s872 => onSum s872 (fun s653 =>
  some s653) fun s872x => some s872x

theorem script.Bytes.c_le (k : Nat) (l : List api.Event) (handle : Int) : OLe (script.Bytes.c k l handle) (script.Bytes l handle) := by
 unfold script.Bytes.c script.Bytes
 repeat' with_reducible first | exact OLe.refl _ | apply script.Bytes.loop0.c_le | apply OLe.bind | apply OLe.need | apply OLe.letO | apply OLe.onSum | apply OLe.ite | intro _

def auth.limits.c (k : Nat)  : Option api.Limits :=
 some ({ Args := 16, Bulk := 1024, Line := 2048 } : api.Limits)

theorem auth.limits.c_le (k : Nat)  : OLe (auth.limits.c k ) (auth.limits ) := by
 unfold auth.limits.c auth.limits
 repeat' with_reducible first | exact OLe.refl _ | apply OLe.bind | apply OLe.need | apply OLe.letO | apply OLe.onSum | apply OLe.ite | intro _

def parse.Limits.c (k : Nat) (l : api.Limits) : Option api.Limits :=
 some ({ Args := if 65536 < (if l.Args < 1 then 1 else l.Args) then 65536 else (if l.Args < 1 then 1 else l.Args), Bulk := if 1048576 < (if l.Bulk < 1 then 1 else l.Bulk) then 1048576 else (if l.Bulk < 1 then 1 else l.Bulk), Line := if 65536 < (if l.Line < 1 then 1 else l.Line) then 65536 else (if l.Line < 1 then 1 else l.Line) } : api.Limits)

theorem parse.Limits.c_le (k : Nat) (l : api.Limits) : OLe (parse.Limits.c k l) (parse.Limits l) := by
 unfold parse.Limits.c parse.Limits
 repeat' with_reducible first | exact OLe.refl _ | apply OLe.bind | apply OLe.need | apply OLe.letO | apply OLe.onSum | apply OLe.ite | intro _

def slices.Clone_string.c (k : Nat) (s : List (List UInt8)) : Option (List (List UInt8)) :=
 need ((([] : List (List UInt8)).length + s.length) * 16 ≤ 140737488355328) <|
 some s

theorem slices.Clone_string.c_le (k : Nat) (s : List (List UInt8)) : OLe (slices.Clone_string.c k s) (slices.Clone_string s) := by
 unfold slices.Clone_string.c slices.Clone_string
 repeat' with_reducible first | exact OLe.refl _ | apply OLe.bind | apply OLe.need | apply OLe.letO | apply OLe.onSum | apply OLe.ite | intro _

def parse.parser.dies.c (k : Nat) (e : Int) (p_ : parse.parser) : Option (Bool × parse.parser) :=
 some (false, { p_ with in_ := ({ Rest := ([] : List UInt8), Args := ([] : List (List UInt8)), Left := 0, Size := 0, Body := false, Need := 0, Dead := e } : api.Input), s := ([] : List UInt8) })

theorem parse.parser.dies.c_le (k : Nat) (e : Int) (p_ : parse.parser) : OLe (parse.parser.dies.c k e p_) (parse.parser.dies e p_) := by
 unfold parse.parser.dies.c parse.parser.dies
 repeat' with_reducible first | exact OLe.refl _ | apply OLe.bind | apply OLe.need | apply OLe.letO | apply OLe.onSum | apply OLe.ite | intro _

def stringslite.Clone.c (k : Nat) (s : List UInt8) : Option (List UInt8) :=
 need (s.length ≤ 281474976710656) <|
 some s

theorem stringslite.Clone.c_le (k : Nat) (s : List UInt8) : OLe (stringslite.Clone.c k s) (stringslite.Clone s) := by
 unfold stringslite.Clone.c stringslite.Clone
 repeat' with_reducible first | exact OLe.refl _ | apply OLe.bind | apply OLe.need | apply OLe.letO | apply OLe.onSum | apply OLe.ite | intro _

def strings.Clone.c (k : Nat) (s_ : List UInt8) : Option (List UInt8) :=
 (stringslite.Clone.c k s_).bind fun r2 =>
 some r2

theorem strings.Clone.c_le (k : Nat) (s_ : List UInt8) : OLe (strings.Clone.c k s_) (strings.Clone s_) := by
 unfold strings.Clone.c strings.Clone
 repeat' with_reducible first | exact OLe.refl _ | apply stringslite.Clone.c_le | apply OLe.bind | apply OLe.need | apply OLe.letO | apply OLe.onSum | apply OLe.ite | intro _

def parse.parser.past.c (k : Nat) (n_ : Int) (p_ : parse.parser) : Option parse.parser :=
 need (InR n_ (p_.s.length : Int) p_.s.length) <|
 some { p_ with in_ := { p_.in_ with Size := IntKind.wrap .i64 (p_.in_.Size + n_) }, s := sub p_.s n_ (p_.s.length : Int) }

theorem parse.parser.past.c_le (k : Nat) (n_ : Int) (p_ : parse.parser) : OLe (parse.parser.past.c k n_ p_) (parse.parser.past n_ p_) := by
 unfold parse.parser.past.c parse.parser.past
 repeat' with_reducible first | exact OLe.refl _ | apply OLe.bind | apply OLe.need | apply OLe.letO | apply OLe.onSum | apply OLe.ite | intro _

def parse.parser.whole.c (k : Nat) (args : List (List UInt8)) (p_ : parse.parser) : Option parse.parser :=
 (
  if 0 < (args.length : Int) then
   need ((p_.out.length + [({ Args := args, Size := p_.in_.Size } : api.Request)].length) * 32 ≤ 140737488355328) <|
   some (p_.out ++ [({ Args := args, Size := p_.in_.Size } : api.Request)])
  else
   some p_.out).bind fun s14 =>
 some { p_ with in_ := ({ Rest := ([] : List UInt8), Args := ([] : List (List UInt8)), Left := 0, Size := 0, Body := false, Need := 0, Dead := 0 } : api.Input), out := s14 }

theorem parse.parser.whole.c_le (k : Nat) (args : List (List UInt8)) (p_ : parse.parser) : OLe (parse.parser.whole.c k args p_) (parse.parser.whole args p_) := by
 unfold parse.parser.whole.c parse.parser.whole
 repeat' with_reducible first | exact OLe.refl _ | apply OLe.bind | apply OLe.need | apply OLe.letO | apply OLe.onSum | apply OLe.ite | intro _

def parse.parser.body.body0.c (k : Nat) (p_ : parse.parser) (s124 : parse.parser.body.S0) : Option (parse.parser.body.S0 ⊕ (Unit ⊕ (Bool × parse.parser))) :=
 if s124.t11 < 2 then
  if (IntKind.wrap .i64 ((p_.s.length : Int) - (if p_.in_.Need < 0 then 0 else p_.in_.Need))) ≤ s124.t11 then
   some (.inr (.inr (false, p_)))
  else
   need (InB (IntKind.wrap .i64 ((if p_.in_.Need < 0 then 0 else p_.in_.Need) + s124.t11)) p_.s.length) <|
   need (InB s124.t11 [13, 10].length) <|
   if (bix p_.s (IntKind.wrap .i64 ((if p_.in_.Need < 0 then 0 else p_.in_.Need) + s124.t11))) = (bix [13, 10] s124.t11) then
    some (.inl ⟨IntKind.wrap .i64 (s124.t11 + 1)⟩)
   else
    (parse.parser.dies.c k 5 p_).bind fun r130 =>
    some (.inr (.inr (r130.1, r130.2)))
 else
  some (.inr (.inl ()))

theorem parse.parser.body.body0.c_le (k : Nat) (p_ : parse.parser) (s124 : parse.parser.body.S0) : OLe (parse.parser.body.body0.c k p_ s124) (parse.parser.body.body0 p_ s124) := by
 unfold parse.parser.body.body0.c parse.parser.body.body0
 repeat' with_reducible first | exact OLe.refl _ | apply parse.parser.dies.c_le | apply OLe.bind | apply OLe.need | apply OLe.letO | apply OLe.onSum | apply OLe.ite | intro _

def parse.parser.body.loop0.c (k : Nat) (p_ : parse.parser) (s124 : parse.parser.body.S0) : Option (Unit ⊕ (Bool × parse.parser)) := iterO (parse.parser.body.body0.c k p_) k s124

theorem parse.parser.body.loop0.c_le (k : Nat) (p_ : parse.parser) (s124 : parse.parser.body.S0) : OLe (parse.parser.body.loop0.c k p_ s124) (parse.parser.body.loop0 p_ s124) := by
 unfold parse.parser.body.loop0.c parse.parser.body.loop0
 exact OLe.iter (fun s => parse.parser.body.body0.c_le k p_ s) k _

def parse.parser.body.c (k : Nat) (p_ : parse.parser) : Option (Bool × parse.parser) :=
 (parse.parser.body.loop0.c k p_ ⟨0⟩).bind fun s155 => onSum s155 (fun s105 =>
  need (InR 0 (if p_.in_.Need < 0 then 0 else p_.in_.Need) p_.s.length) <|
  (strings.Clone.c k (sub p_.s 0 (if p_.in_.Need < 0 then 0 else p_.in_.Need))).bind fun r137 =>
  need ((p_.in_.Args.length + [r137].length) * 16 ≤ 140737488355328) <|
  (parse.parser.past.c k (IntKind.wrap .i64 ((if p_.in_.Need < 0 then 0 else p_.in_.Need) + 2)) { p_ with in_ := ({ Rest := p_.in_.Rest, Args := p_.in_.Args ++ [r137], Left := IntKind.wrap .i64 (p_.in_.Left - 1), Size := p_.in_.Size, Body := false, Need := 0, Dead := p_.in_.Dead } : api.Input) }).bind fun r140 =>
  (
   if r140.in_.Left = 0 then
    (parse.parser.whole.c k r140.in_.Args r140).bind fun r151 =>
    some (r151.in_.Rest, r151.in_.Args, r151.in_.Left, r151.in_.Size, r151.in_.Body, r151.in_.Need, r151.in_.Dead, r151.s, r151.l.Args, r151.l.Bulk, r151.l.Line, r151.out)
   else
    some (r140.in_.Rest, r140.in_.Args, r140.in_.Left, r140.in_.Size, r140.in_.Body, r140.in_.Need, r140.in_.Dead, r140.s, r140.l.Args, r140.l.Bulk, r140.l.Line, r140.out)).bind fun s146 =>
  some (true, ({ in_ := ({ Rest := s146.1, Args := s146.2.1, Left := s146.2.2.1, Size := s146.2.2.2.1, Body := s146.2.2.2.2.1, Need := s146.2.2.2.2.2.1, Dead := s146.2.2.2.2.2.2.1 } : api.Input), s := s146.2.2.2.2.2.2.2.1, l := ({ Args := s146.2.2.2.2.2.2.2.2.1, Bulk := s146.2.2.2.2.2.2.2.2.2.1, Line := s146.2.2.2.2.2.2.2.2.2.2.1 } : api.Limits), out := s146.2.2.2.2.2.2.2.2.2.2.2 } : parse.parser))) fun s155x => some s155x

theorem parse.parser.body.c_le (k : Nat) (p_ : parse.parser) : OLe (parse.parser.body.c k p_) (parse.parser.body p_) := by
 unfold parse.parser.body.c parse.parser.body
 repeat' with_reducible first | exact OLe.refl _ | apply parse.parser.body.loop0.c_le | apply strings.Clone.c_le | apply parse.parser.past.c_le | apply parse.parser.whole.c_le | apply OLe.bind | apply OLe.need | apply OLe.letO | apply OLe.onSum | apply OLe.ite | intro _

def parse.parser.header.body0.c (k : Nat) (p_ : parse.parser) (most : Int) (over : Int) (s389 : parse.parser.header.S0) : Option (parse.parser.header.S0 ⊕ (Unit ⊕ (Int × Bool × parse.parser))) :=
 if s389.i < (p_.s.length : Int) then
  need (InB s389.i p_.s.length) <|
  letO (
   if (bix p_.s s389.i) = 13 then
    decide (1 < s389.i)
   else
    false) fun s395 =>
  if s395 = true then
   if (IntKind.wrap .i64 (s389.i + 1)) = (p_.s.length : Int) then
    some (.inr (.inr (0, false, p_)))
   else
    need (InB (IntKind.wrap .i64 (s389.i + 1)) p_.s.length) <|
    if (bix p_.s (IntKind.wrap .i64 (s389.i + 1))) = 10 then
     (parse.parser.past.c k (IntKind.wrap .i64 (s389.i + 2)) p_).bind fun r403 =>
     some (.inr (.inr (s389.n, true, r403)))
    else
     (parse.parser.dies.c k 5 p_).bind fun r400 =>
     some (.inr (.inr (0, r400.1, r400.2)))
  else
   letO (
    if (bix p_.s s389.i) < 48 then
     true
    else
     if 57 < (bix p_.s s389.i) then
      true
     else
      if 1 < s389.i then
       decide (s389.n = 0)
      else
       false) fun s411 =>
   if s411 = true then
    (parse.parser.dies.c k 5 p_).bind fun r417 =>
    some (.inr (.inr (0, r417.1, r417.2)))
   else
    letO (IntKind.wrap .i64 ((IntKind.wrap .i64 (10 * s389.n)) + (IntKind.wrap .i64 (IntKind.wrap .u8 ((bix p_.s s389.i) - 48))))) fun x420 =>
    if most < x420 then
     (parse.parser.dies.c k over p_).bind fun r421 =>
     some (.inr (.inr (0, r421.1, r421.2)))
    else
     some (.inl ⟨x420, IntKind.wrap .i64 (s389.i + 1)⟩)
 else
  some (.inr (.inl ()))

theorem parse.parser.header.body0.c_le (k : Nat) (p_ : parse.parser) (most : Int) (over : Int) (s389 : parse.parser.header.S0) : OLe (parse.parser.header.body0.c k p_ most over s389) (parse.parser.header.body0 p_ most over s389) := by
 unfold parse.parser.header.body0.c parse.parser.header.body0
 repeat' with_reducible first | exact OLe.refl _ | apply parse.parser.past.c_le | apply parse.parser.dies.c_le | apply OLe.bind | apply OLe.need | apply OLe.letO | apply OLe.onSum | apply OLe.ite | intro _

def parse.parser.header.loop0.c (k : Nat) (p_ : parse.parser) (most : Int) (over : Int) (s389 : parse.parser.header.S0) : Option (Unit ⊕ (Int × Bool × parse.parser)) := iterO (parse.parser.header.body0.c k p_ most over) k s389

theorem parse.parser.header.loop0.c_le (k : Nat) (p_ : parse.parser) (most : Int) (over : Int) (s389 : parse.parser.header.S0) : OLe (parse.parser.header.loop0.c k p_ most over s389) (parse.parser.header.loop0 p_ most over s389) := by
 unfold parse.parser.header.loop0.c parse.parser.header.loop0
 exact OLe.iter (fun s => parse.parser.header.body0.c_le k p_ most over s) k _

def parse.parser.header.c (k : Nat) (mark : Int) (most : Int) (over : Int) (p_ : parse.parser) : Option (Int × Bool × parse.parser) :=
 if p_.s = ([] : List UInt8) then
  some (0, false, p_)
 else
  need (InB 0 p_.s.length) <|
  if (bix p_.s 0) = mark then
   (parse.parser.header.loop0.c k p_ most over ⟨0, 1⟩).bind fun s428 => onSum s428 (fun s320 =>
    some (0, false, p_)) fun s428x => some s428x
  else
   (parse.parser.dies.c k 5 p_).bind fun r215 =>
   some (0, r215.1, r215.2)

theorem parse.parser.header.c_le (k : Nat) (mark : Int) (most : Int) (over : Int) (p_ : parse.parser) : OLe (parse.parser.header.c k mark most over p_) (parse.parser.header mark most over p_) := by
 unfold parse.parser.header.c parse.parser.header
 repeat' with_reducible first | exact OLe.refl _ | apply parse.parser.header.loop0.c_le | apply parse.parser.dies.c_le | apply OLe.bind | apply OLe.need | apply OLe.letO | apply OLe.onSum | apply OLe.ite | intro _

def stringslite.IndexByte.c (k : Nat) (s_ : List UInt8) (c_ : Int) : Option Int :=
 some (Lib.indexByte s_ (u8 c_))

theorem stringslite.IndexByte.c_le (k : Nat) (s_ : List UInt8) (c_ : Int) : OLe (stringslite.IndexByte.c k s_ c_) (stringslite.IndexByte s_ c_) := by
 unfold stringslite.IndexByte.c stringslite.IndexByte
 repeat' with_reducible first | exact OLe.refl _ | apply OLe.bind | apply OLe.need | apply OLe.letO | apply OLe.onSum | apply OLe.ite | intro _

def strings.IndexByte.c (k : Nat) (s_ : List UInt8) (c_ : Int) : Option Int :=
 (stringslite.IndexByte.c k s_ c_).bind fun r2 =>
 some r2

theorem strings.IndexByte.c_le (k : Nat) (s_ : List UInt8) (c_ : Int) : OLe (strings.IndexByte.c k s_ c_) (strings.IndexByte s_ c_) := by
 unfold strings.IndexByte.c strings.IndexByte
 repeat' with_reducible first | exact OLe.refl _ | apply stringslite.IndexByte.c_le | apply OLe.bind | apply OLe.need | apply OLe.letO | apply OLe.onSum | apply OLe.ite | intro _

def stringslite.HasSuffix.c (k : Nat) (s_ : List UInt8) (suffix : List UInt8) : Option Bool :=
 (
  if (suffix.length : Int) ≤ (s_.length : Int) then
   need (InR (IntKind.wrap .i64 ((s_.length : Int) - (suffix.length : Int))) (s_.length : Int) s_.length) <|
   some (decide ((sub s_ (IntKind.wrap .i64 ((s_.length : Int) - (suffix.length : Int))) (s_.length : Int)) = suffix))
  else
   some false).bind fun s10 =>
 some s10

theorem stringslite.HasSuffix.c_le (k : Nat) (s_ : List UInt8) (suffix : List UInt8) : OLe (stringslite.HasSuffix.c k s_ suffix) (stringslite.HasSuffix s_ suffix) := by
 unfold stringslite.HasSuffix.c stringslite.HasSuffix
 repeat' with_reducible first | exact OLe.refl _ | apply OLe.bind | apply OLe.need | apply OLe.letO | apply OLe.onSum | apply OLe.ite | intro _

def stringslite.TrimSuffix.c (k : Nat) (s_ : List UInt8) (suffix : List UInt8) : Option (List UInt8) :=
 (stringslite.HasSuffix.c k s_ suffix).bind fun r4 =>
 if r4 = true then
  need (InR 0 (IntKind.wrap .i64 ((s_.length : Int) - (suffix.length : Int))) s_.length) <|
  some (sub s_ 0 (IntKind.wrap .i64 ((s_.length : Int) - (suffix.length : Int))))
 else
  some s_

theorem stringslite.TrimSuffix.c_le (k : Nat) (s_ : List UInt8) (suffix : List UInt8) : OLe (stringslite.TrimSuffix.c k s_ suffix) (stringslite.TrimSuffix s_ suffix) := by
 unfold stringslite.TrimSuffix.c stringslite.TrimSuffix
 repeat' with_reducible first | exact OLe.refl _ | apply stringslite.HasSuffix.c_le | apply OLe.bind | apply OLe.need | apply OLe.letO | apply OLe.onSum | apply OLe.ite | intro _

def strings.TrimSuffix.c (k : Nat) (s_ : List UInt8) (suffix : List UInt8) : Option (List UInt8) :=
 (stringslite.TrimSuffix.c k s_ suffix).bind fun r2 =>
 some r2

theorem strings.TrimSuffix.c_le (k : Nat) (s_ : List UInt8) (suffix : List UInt8) : OLe (strings.TrimSuffix.c k s_ suffix) (strings.TrimSuffix s_ suffix) := by
 unfold strings.TrimSuffix.c strings.TrimSuffix
 repeat' with_reducible first | exact OLe.refl _ | apply stringslite.TrimSuffix.c_le | apply OLe.bind | apply OLe.need | apply OLe.letO | apply OLe.onSum | apply OLe.ite | intro _

def line.blank.c (k : Nat) (c_ : Int) : Option Bool :=
 letO (
  if c_ = 32 then
   true
  else
   decide (c_ = 9)) fun s7 =>
 some s7

theorem line.blank.c_le (k : Nat) (c_ : Int) : OLe (line.blank.c k c_) (line.blank c_) := by
 unfold line.blank.c line.blank
 repeat' with_reducible first | exact OLe.refl _ | apply OLe.bind | apply OLe.need | apply OLe.letO | apply OLe.onSum | apply OLe.ite | intro _

def line.quoted_1.c (k : Nat) (i : Int) (a1_ : List UInt8) : Option Bool :=
 (
  if i = (a1_.length : Int) then
   some true
  else
   need (InB i a1_.length) <|
   (line.blank.c k (bix a1_ i)).bind fun r18 =>
   some r18).bind fun s13 =>
 some s13

theorem line.quoted_1.c_le (k : Nat) (i : Int) (a1_ : List UInt8) : OLe (line.quoted_1.c k i a1_) (line.quoted_1 i a1_) := by
 unfold line.quoted_1.c line.quoted_1
 repeat' with_reducible first | exact OLe.refl _ | apply line.blank.c_le | apply OLe.bind | apply OLe.need | apply OLe.letO | apply OLe.onSum | apply OLe.ite | intro _

def line.hex.c (k : Nat) (c_ : Int) : Option Int :=
 letO (
  if 48 ≤ c_ then
   decide (c_ ≤ 57)
  else
   false) fun s20 =>
 if s20 = true then
  some (IntKind.wrap .i64 (IntKind.wrap .u8 (c_ - 48)))
 else
  letO (
   if 97 ≤ c_ then
    decide (c_ ≤ 102)
   else
    false) fun s25 =>
  if s25 = true then
   some (IntKind.wrap .i64 ((IntKind.wrap .i64 (IntKind.wrap .u8 (c_ - 97))) + 10))
  else
   letO (
    if 65 ≤ c_ then
     decide (c_ ≤ 70)
    else
     false) fun s30 =>
   if s30 = true then
    some (IntKind.wrap .i64 ((IntKind.wrap .i64 (IntKind.wrap .u8 (c_ - 65))) + 10))
   else
    some (-1)

theorem line.hex.c_le (k : Nat) (c_ : Int) : OLe (line.hex.c k c_) (line.hex c_) := by
 unfold line.hex.c line.hex
 repeat' with_reducible first | exact OLe.refl _ | apply OLe.bind | apply OLe.need | apply OLe.letO | apply OLe.onSum | apply OLe.ite | intro _

def line.turn.c (k : Nat) (s_ : List UInt8) (at_ : Int) : Option (Int × Int) :=
 (
  need (InB at_ s_.length) <|
  if (bix s_ at_) = 120 then
   if (IntKind.wrap .i64 (at_ + 2)) < (s_.length : Int) then
    need (InB (IntKind.wrap .i64 (at_ + 1)) s_.length) <|
    (line.hex.c k (bix s_ (IntKind.wrap .i64 (at_ + 1)))).bind fun r47 =>
    if 0 ≤ r47 then
     need (InB (IntKind.wrap .i64 (at_ + 2)) s_.length) <|
     (line.hex.c k (bix s_ (IntKind.wrap .i64 (at_ + 2)))).bind fun r50 =>
     some (decide (0 ≤ r50))
    else
     some false
   else
    some false
  else
   some false).bind fun s40 =>
 if s40 = true then
  need (InB (IntKind.wrap .i64 (at_ + 1)) s_.length) <|
  (line.hex.c k (bix s_ (IntKind.wrap .i64 (at_ + 1)))).bind fun r52 =>
  need (InB (IntKind.wrap .i64 (at_ + 2)) s_.length) <|
  (line.hex.c k (bix s_ (IntKind.wrap .i64 (at_ + 2)))).bind fun r54 =>
  some (IntKind.wrap .u8 (IntKind.wrap .i64 ((IntKind.wrap .i64 (16 * r52)) + r54)), IntKind.wrap .i64 (at_ + 3))
 else
  need (InB at_ s_.length) <|
  if (bix s_ at_) = 110 then
   some (10, IntKind.wrap .i64 (at_ + 1))
  else
   if (bix s_ at_) = 114 then
    some (13, IntKind.wrap .i64 (at_ + 1))
   else
    if (bix s_ at_) = 116 then
     some (9, IntKind.wrap .i64 (at_ + 1))
    else
     if (bix s_ at_) = 98 then
      some (8, IntKind.wrap .i64 (at_ + 1))
     else
      if (bix s_ at_) = 97 then
       some (7, IntKind.wrap .i64 (at_ + 1))
      else
       need (InB at_ s_.length) <|
       some (bix s_ at_, IntKind.wrap .i64 (at_ + 1))

theorem line.turn.c_le (k : Nat) (s_ : List UInt8) (at_ : Int) : OLe (line.turn.c k s_ at_) (line.turn s_ at_) := by
 unfold line.turn.c line.turn
 repeat' with_reducible first | exact OLe.refl _ | apply line.hex.c_le | apply OLe.bind | apply OLe.need | apply OLe.letO | apply OLe.onSum | apply OLe.ite | intro _

def line.quoted.body0.c (k : Nat) (s_ : List UInt8) (mark : Int) (s414 : line.quoted.S0) : Option (line.quoted.S0 ⊕ (Int ⊕ ((List UInt8) × Int × Bool))) :=
 if s414.at_ < (s_.length : Int) then
  need (InB s414.at_ s_.length) <|
  if (bix s_ s414.at_) = mark then
   (line.quoted_1.c k (IntKind.wrap .i64 (s414.at_ + 1)) s_).bind fun r420 =>
   some (.inr (.inr (s414.b, IntKind.wrap .i64 (s414.at_ + 1), r420)))
  else
   letO (
    if (bix s_ s414.at_) = 92 then
     if mark = 34 then
      decide ((IntKind.wrap .i64 (s414.at_ + 1)) < (s_.length : Int))
     else
      false
    else
     false) fun s423 =>
   if s423 = true then
    (line.turn.c k s_ (IntKind.wrap .i64 (s414.at_ + 1))).bind fun r428 =>
    need (IsU8 r428.1) <|
    need ((s414.b.length + [u8 r428.1].length) * 1 ≤ 140737488355328) <|
    some (.inl ⟨r428.2, s414.b ++ [u8 r428.1]⟩)
   else
    (
     if (bix s_ s414.at_) = 92 then
      if mark = 39 then
       if (IntKind.wrap .i64 (s414.at_ + 1)) < (s_.length : Int) then
        need (InB (IntKind.wrap .i64 (s414.at_ + 1)) s_.length) <|
        some (decide ((bix s_ (IntKind.wrap .i64 (s414.at_ + 1))) = mark))
       else
        some false
      else
       some false
     else
      some false).bind fun s436 =>
    if s436 = true then
     need (IsU8 mark) <|
     need ((s414.b.length + [u8 mark].length) * 1 ≤ 140737488355328) <|
     some (.inl ⟨IntKind.wrap .i64 (s414.at_ + 2), s414.b ++ [u8 mark]⟩)
    else
     need (IsU8 (bix s_ s414.at_)) <|
     need ((s414.b.length + [u8 (bix s_ s414.at_)].length) * 1 ≤ 140737488355328) <|
     some (.inl ⟨IntKind.wrap .i64 (s414.at_ + 1), s414.b ++ [u8 (bix s_ s414.at_)]⟩)
 else
  some (.inr (.inl s414.at_))

theorem line.quoted.body0.c_le (k : Nat) (s_ : List UInt8) (mark : Int) (s414 : line.quoted.S0) : OLe (line.quoted.body0.c k s_ mark s414) (line.quoted.body0 s_ mark s414) := by
 unfold line.quoted.body0.c line.quoted.body0
 repeat' with_reducible first | exact OLe.refl _ | apply line.quoted_1.c_le | apply line.turn.c_le | apply OLe.bind | apply OLe.need | apply OLe.letO | apply OLe.onSum | apply OLe.ite | intro _

def line.quoted.loop0.c (k : Nat) (s_ : List UInt8) (mark : Int) (s414 : line.quoted.S0) : Option (Int ⊕ ((List UInt8) × Int × Bool)) := iterO (line.quoted.body0.c k s_ mark) k s414

theorem line.quoted.loop0.c_le (k : Nat) (s_ : List UInt8) (mark : Int) (s414 : line.quoted.S0) : OLe (line.quoted.loop0.c k s_ mark s414) (line.quoted.loop0 s_ mark s414) := by
 unfold line.quoted.loop0.c line.quoted.loop0
 exact OLe.iter (fun s => line.quoted.body0.c_le k s_ mark s) k _

def line.quoted.c (k : Nat) (s_ : List UInt8) (at_ : Int) (mark : Int) : Option ((List UInt8) × Int × Bool) :=
 (line.quoted.loop0.c k s_ mark ⟨at_, ([] : List UInt8)⟩).bind fun s455 => onSum s455 (fun s340 =>
  some (([] : List UInt8), s340, false)) fun s455x => some s455x

theorem line.quoted.c_le (k : Nat) (s_ : List UInt8) (at_ : Int) (mark : Int) : OLe (line.quoted.c k s_ at_ mark) (line.quoted s_ at_ mark) := by
 unfold line.quoted.c line.quoted
 repeat' with_reducible first | exact OLe.refl _ | apply line.quoted.loop0.c_le | apply OLe.bind | apply OLe.need | apply OLe.letO | apply OLe.onSum | apply OLe.ite | intro _

def line.Split.body2.c (k : Nat) (s_ : List UInt8) (s1484 : line.Split.S2) : Option (line.Split.S2 ⊕ Int) :=
 (
  if s1484.at_ < (s_.length : Int) then
   need (InB s1484.at_ s_.length) <|
   (line.blank.c k (bix s_ s1484.at_)).bind fun r1496 =>
   some r1496
  else
   some false).bind fun s1491 =>
 if s1491 = true then
  some (.inl ⟨IntKind.wrap .i64 (s1484.at_ + 1)⟩)
 else
  some (.inr s1484.at_)

theorem line.Split.body2.c_le (k : Nat) (s_ : List UInt8) (s1484 : line.Split.S2) : OLe (line.Split.body2.c k s_ s1484) (line.Split.body2 s_ s1484) := by
 unfold line.Split.body2.c line.Split.body2
 repeat' with_reducible first | exact OLe.refl _ | apply line.blank.c_le | apply OLe.bind | apply OLe.need | apply OLe.letO | apply OLe.onSum | apply OLe.ite | intro _

def line.Split.loop2.c (k : Nat) (s_ : List UInt8) (s1484 : line.Split.S2) : Option Int := iterO (line.Split.body2.c k s_) k s1484

theorem line.Split.loop2.c_le (k : Nat) (s_ : List UInt8) (s1484 : line.Split.S2) : OLe (line.Split.loop2.c k s_ s1484) (line.Split.loop2 s_ s1484) := by
 unfold line.Split.loop2.c line.Split.loop2
 exact OLe.iter (fun s => line.Split.body2.c_le k s_ s) k _

def line.Split.body4.c (k : Nat) (s_ : List UInt8) (s1664 : line.Split.S4) : Option (line.Split.S4 ⊕ ((Int × (List UInt8)) ⊕ (line.Split.S0 ⊕ ((List (List UInt8)) × Bool)))) :=
 (
  if s1664.at_ < (s_.length : Int) then
   need (InB s1664.at_ s_.length) <|
   (line.blank.c k (bix s_ s1664.at_)).bind fun r1677 =>
   some (!r1677)
  else
   some false).bind fun s1672 =>
 if s1672 = true then
  (
   need (InB s1664.at_ s_.length) <|
   if (bix s_ s1664.at_) = 34 then
    some false
   else
    need (InB s1664.at_ s_.length) <|
    some (!decide ((bix s_ s1664.at_) = 39))).bind fun s1681 =>
  if s1681 = true then
   need (InB s1664.at_ s_.length) <|
   need (IsU8 (bix s_ s1664.at_)) <|
   need ((s1664.b.length + [u8 (bix s_ s1664.at_)].length) * 1 ≤ 140737488355328) <|
   some (.inl ⟨IntKind.wrap .i64 (s1664.at_ + 1), s1664.b ++ [u8 (bix s_ s1664.at_)]⟩)
  else
   need (InB s1664.at_ s_.length) <|
   (line.quoted.c k s_ (IntKind.wrap .i64 (s1664.at_ + 1)) (bix s_ s1664.at_)).bind fun r1692 =>
   if (!r1692.2.2) = true then
    some (.inr (.inr (.inr (([] : List (List UInt8)), false))))
   else
    need ((s1664.b.length + r1692.1.length) * 1 ≤ 140737488355328) <|
    some (.inl ⟨r1692.2.1, s1664.b ++ r1692.1⟩)
 else
  some (.inr (.inl (s1664.at_, s1664.b)))

theorem line.Split.body4.c_le (k : Nat) (s_ : List UInt8) (s1664 : line.Split.S4) : OLe (line.Split.body4.c k s_ s1664) (line.Split.body4 s_ s1664) := by
 unfold line.Split.body4.c line.Split.body4
 repeat' with_reducible first | exact OLe.refl _ | apply line.blank.c_le | apply line.quoted.c_le | apply OLe.bind | apply OLe.need | apply OLe.letO | apply OLe.onSum | apply OLe.ite | intro _

def line.Split.loop4.c (k : Nat) (s_ : List UInt8) (s1664 : line.Split.S4) : Option ((Int × (List UInt8)) ⊕ (line.Split.S0 ⊕ ((List (List UInt8)) × Bool))) := iterO (line.Split.body4.c k s_) k s1664

theorem line.Split.loop4.c_le (k : Nat) (s_ : List UInt8) (s1664 : line.Split.S4) : OLe (line.Split.loop4.c k s_ s1664) (line.Split.loop4 s_ s1664) := by
 unfold line.Split.loop4.c line.Split.loop4
 exact OLe.iter (fun s => line.Split.body4.c_le k s_ s) k _

def line.Split.body0.c (k : Nat) (s_ : List UInt8) (s1418 : line.Split.S0) : Option (line.Split.S0 ⊕ ((List (List UInt8)) × Bool)) :=
 (line.Split.loop2.c k s_ ⟨s1418.at_⟩).bind fun s1459 =>
 if s1459 = (s_.length : Int) then
  some (.inr (s1418.out, true))
 else
  (line.Split.loop4.c k s_ ⟨s1459, ([] : List UInt8)⟩).bind fun s1703 => onSum s1703 (fun s1597 =>
   need ((s1418.out.length + [s1597.2].length) * 16 ≤ 140737488355328) <|
   some (.inl ⟨s1418.out ++ [s1597.2], s1597.1⟩)) fun s1703x => some s1703x

theorem line.Split.body0.c_le (k : Nat) (s_ : List UInt8) (s1418 : line.Split.S0) : OLe (line.Split.body0.c k s_ s1418) (line.Split.body0 s_ s1418) := by
 unfold line.Split.body0.c line.Split.body0
 repeat' with_reducible first | exact OLe.refl _ | apply line.Split.loop2.c_le | apply line.Split.loop4.c_le | apply OLe.bind | apply OLe.need | apply OLe.letO | apply OLe.onSum | apply OLe.ite | intro _

def line.Split.loop0.c (k : Nat) (s_ : List UInt8) (s1418 : line.Split.S0) : Option ((List (List UInt8)) × Bool) := iterO (line.Split.body0.c k s_) k s1418

theorem line.Split.loop0.c_le (k : Nat) (s_ : List UInt8) (s1418 : line.Split.S0) : OLe (line.Split.loop0.c k s_ s1418) (line.Split.loop0 s_ s1418) := by
 unfold line.Split.loop0.c line.Split.loop0
 exact OLe.iter (fun s => line.Split.body0.c_le k s_ s) k _

def line.Split.c (k : Nat) (s_ : List UInt8) : Option ((List (List UInt8)) × Bool) :=
 line.Split.loop0.c k s_ ⟨([] : List (List UInt8)), 0⟩

theorem line.Split.c_le (k : Nat) (s_ : List UInt8) : OLe (line.Split.c k s_) (line.Split s_) := by
 unfold line.Split.c line.Split
 repeat' with_reducible first | exact OLe.refl _ | apply line.Split.loop0.c_le | apply OLe.bind | apply OLe.need | apply OLe.letO | apply OLe.onSum | apply OLe.ite | intro _

def parse.parser.line_1.c (k : Nat) (s_ : List UInt8) (b1_ : parse.parser) : Option Bool :=
 some (decide (b1_.l.Bulk < (s_.length : Int)))

theorem parse.parser.line_1.c_le (k : Nat) (s_ : List UInt8) (b1_ : parse.parser) : OLe (parse.parser.line_1.c k s_ b1_) (parse.parser.line_1 s_ b1_) := by
 unfold parse.parser.line_1.c parse.parser.line_1
 repeat' with_reducible first | exact OLe.refl _ | apply OLe.bind | apply OLe.need | apply OLe.letO | apply OLe.onSum | apply OLe.ite | intro _

def slices.IndexFunc_string_parse_parser_line_1.body0.c (k : Nat) (s_ : List (List UInt8)) (b1_ : parse.parser) (s112 : slices.IndexFunc_string_parse_parser_line_1.S0) : Option (slices.IndexFunc_string_parse_parser_line_1.S0 ⊕ (Unit ⊕ Int)) :=
 if s112.t8 < (s_.length : Int) then
  need (InB s112.t8 s_.length) <|
  (parse.parser.line_1.c k (ix s_ s112.t8) b1_).bind fun r119 =>
  if r119 = true then
   some (.inr (.inr s112.t8))
  else
   some (.inl ⟨IntKind.wrap .i64 (s112.t8 + 1)⟩)
 else
  some (.inr (.inl ()))

theorem slices.IndexFunc_string_parse_parser_line_1.body0.c_le (k : Nat) (s_ : List (List UInt8)) (b1_ : parse.parser) (s112 : slices.IndexFunc_string_parse_parser_line_1.S0) : OLe (slices.IndexFunc_string_parse_parser_line_1.body0.c k s_ b1_ s112) (slices.IndexFunc_string_parse_parser_line_1.body0 s_ b1_ s112) := by
 unfold slices.IndexFunc_string_parse_parser_line_1.body0.c slices.IndexFunc_string_parse_parser_line_1.body0
 repeat' with_reducible first | exact OLe.refl _ | apply parse.parser.line_1.c_le | apply OLe.bind | apply OLe.need | apply OLe.letO | apply OLe.onSum | apply OLe.ite | intro _

def slices.IndexFunc_string_parse_parser_line_1.loop0.c (k : Nat) (s_ : List (List UInt8)) (b1_ : parse.parser) (s112 : slices.IndexFunc_string_parse_parser_line_1.S0) : Option (Unit ⊕ Int) := iterO (slices.IndexFunc_string_parse_parser_line_1.body0.c k s_ b1_) k s112

theorem slices.IndexFunc_string_parse_parser_line_1.loop0.c_le (k : Nat) (s_ : List (List UInt8)) (b1_ : parse.parser) (s112 : slices.IndexFunc_string_parse_parser_line_1.S0) : OLe (slices.IndexFunc_string_parse_parser_line_1.loop0.c k s_ b1_ s112) (slices.IndexFunc_string_parse_parser_line_1.loop0 s_ b1_ s112) := by
 unfold slices.IndexFunc_string_parse_parser_line_1.loop0.c slices.IndexFunc_string_parse_parser_line_1.loop0
 exact OLe.iter (fun s => slices.IndexFunc_string_parse_parser_line_1.body0.c_le k s_ b1_ s) k _

def slices.IndexFunc_string_parse_parser_line_1.c (k : Nat) (s_ : List (List UInt8)) (b1_ : parse.parser) : Option Int :=
 (slices.IndexFunc_string_parse_parser_line_1.loop0.c k s_ b1_ ⟨0⟩).bind fun s124 => onSum s124 (fun s91 =>
  some (-1)) fun s124x => some s124x

theorem slices.IndexFunc_string_parse_parser_line_1.c_le (k : Nat) (s_ : List (List UInt8)) (b1_ : parse.parser) : OLe (slices.IndexFunc_string_parse_parser_line_1.c k s_ b1_) (slices.IndexFunc_string_parse_parser_line_1 s_ b1_) := by
 unfold slices.IndexFunc_string_parse_parser_line_1.c slices.IndexFunc_string_parse_parser_line_1
 repeat' with_reducible first | exact OLe.refl _ | apply slices.IndexFunc_string_parse_parser_line_1.loop0.c_le | apply OLe.bind | apply OLe.need | apply OLe.letO | apply OLe.onSum | apply OLe.ite | intro _

def slices.ContainsFunc_string_parse_parser_line_1.c (k : Nat) (s_ : List (List UInt8)) (b1_ : parse.parser) : Option Bool :=
 (slices.IndexFunc_string_parse_parser_line_1.c k s_ b1_).bind fun r4 =>
 some (decide (0 ≤ r4))

theorem slices.ContainsFunc_string_parse_parser_line_1.c_le (k : Nat) (s_ : List (List UInt8)) (b1_ : parse.parser) : OLe (slices.ContainsFunc_string_parse_parser_line_1.c k s_ b1_) (slices.ContainsFunc_string_parse_parser_line_1 s_ b1_) := by
 unfold slices.ContainsFunc_string_parse_parser_line_1.c slices.ContainsFunc_string_parse_parser_line_1
 repeat' with_reducible first | exact OLe.refl _ | apply slices.IndexFunc_string_parse_parser_line_1.c_le | apply OLe.bind | apply OLe.need | apply OLe.letO | apply OLe.onSum | apply OLe.ite | intro _

def parse.parser.line.c (k : Nat) (p_ : parse.parser) : Option (Bool × parse.parser) :=
 (strings.IndexByte.c k p_.s 10).bind fun r36 =>
 letO (
  if r36 < 0 then
   if p_.l.Line < (p_.s.length : Int) then
    true
   else
    decide (p_.l.Line < r36)
  else
   decide (p_.l.Line < r36)) fun s39 =>
 if s39 = true then
  (parse.parser.dies.c k 6 p_).bind fun r44 =>
  some (r44.1, r44.2)
 else
  if r36 < 0 then
   some (false, p_)
  else
   need (InR 0 r36 p_.s.length) <|
   (strings.TrimSuffix.c k (sub p_.s 0 r36) [13]).bind fun r48 =>
   (line.Split.c k r48).bind fun r49 =>
   if (!r49.2) = true then
    (parse.parser.dies.c k 16 p_).bind fun r51 =>
    some (r51.1, r51.2)
   else
    if p_.l.Args < (r49.1.length : Int) then
     (parse.parser.dies.c k 7 p_).bind fun r54 =>
     some (r54.1, r54.2)
    else
     (slices.ContainsFunc_string_parse_parser_line_1.c k r49.1 p_).bind fun r57 =>
     if r57 = true then
      (parse.parser.dies.c k 6 p_).bind fun r60 =>
      some (r60.1, r60.2)
     else
      (parse.parser.past.c k (IntKind.wrap .i64 (r36 + 1)) p_).bind fun r63 =>
      (parse.parser.whole.c k r49.1 r63).bind fun r66 =>
      some (true, r66)

theorem parse.parser.line.c_le (k : Nat) (p_ : parse.parser) : OLe (parse.parser.line.c k p_) (parse.parser.line p_) := by
 unfold parse.parser.line.c parse.parser.line
 repeat' with_reducible first | exact OLe.refl _ | apply strings.IndexByte.c_le | apply parse.parser.dies.c_le | apply strings.TrimSuffix.c_le | apply line.Split.c_le | apply slices.ContainsFunc_string_parse_parser_line_1.c_le | apply parse.parser.past.c_le | apply parse.parser.whole.c_le | apply OLe.bind | apply OLe.need | apply OLe.letO | apply OLe.onSum | apply OLe.ite | intro _

def parse.parser.step.c (k : Nat) (p_ : parse.parser) : Option (Bool × parse.parser) :=
 if p_.in_.Body = true then
  (parse.parser.body.c k p_).bind fun r50 =>
  some (r50.1, r50.2)
 else
  if 0 < p_.in_.Left then
   (parse.parser.header.c k 36 p_.l.Bulk 6 p_).bind fun r53 =>
   letO (
    if r53.2.1 = true then
     (true, r53.1)
    else
     (r53.2.2.in_.Body, r53.2.2.in_.Need)) fun s57 =>
   some (r53.2.1, { r53.2.2 with in_ := { r53.2.2.in_ with Body := s57.1, Need := s57.2 } })
  else
   if p_.s = ([] : List UInt8) then
    some (false, p_)
   else
    need (InB 0 p_.s.length) <|
    if (bix p_.s 0) = 42 then
     (parse.parser.header.c k 42 p_.l.Args 7 p_).bind fun r65 =>
     letO (
      if r65.2.1 = true then
       r65.1
      else
       r65.2.2.in_.Left) fun s69 =>
     (
      letO (
       if r65.2.1 = true then
        decide (r65.1 = 0)
       else
        false) fun s87 =>
      if s87 = true then
       (parse.parser.whole.c k ([] : List (List UInt8)) { r65.2.2 with in_ := { r65.2.2.in_ with Left := s69 } }).bind fun r91 =>
       some (r91.in_.Rest, r91.in_.Args, r91.in_.Left, r91.in_.Size, r91.in_.Body, r91.in_.Need, r91.in_.Dead, r91.s, r91.l.Args, r91.l.Bulk, r91.l.Line, r91.out)
      else
       some (r65.2.2.in_.Rest, r65.2.2.in_.Args, s69, r65.2.2.in_.Size, r65.2.2.in_.Body, r65.2.2.in_.Need, r65.2.2.in_.Dead, r65.2.2.s, r65.2.2.l.Args, r65.2.2.l.Bulk, r65.2.2.l.Line, r65.2.2.out)).bind fun s81 =>
     some (r65.2.1, ({ in_ := ({ Rest := s81.1, Args := s81.2.1, Left := s81.2.2.1, Size := s81.2.2.2.1, Body := s81.2.2.2.2.1, Need := s81.2.2.2.2.2.1, Dead := s81.2.2.2.2.2.2.1 } : api.Input), s := s81.2.2.2.2.2.2.2.1, l := ({ Args := s81.2.2.2.2.2.2.2.2.1, Bulk := s81.2.2.2.2.2.2.2.2.2.1, Line := s81.2.2.2.2.2.2.2.2.2.2.1 } : api.Limits), out := s81.2.2.2.2.2.2.2.2.2.2.2 } : parse.parser))
    else
     (parse.parser.line.c k p_).bind fun r62 =>
     some (r62.1, r62.2)

theorem parse.parser.step.c_le (k : Nat) (p_ : parse.parser) : OLe (parse.parser.step.c k p_) (parse.parser.step p_) := by
 unfold parse.parser.step.c parse.parser.step
 repeat' with_reducible first | exact OLe.refl _ | apply parse.parser.body.c_le | apply parse.parser.header.c_le | apply parse.parser.whole.c_le | apply parse.parser.line.c_le | apply OLe.bind | apply OLe.need | apply OLe.letO | apply OLe.onSum | apply OLe.ite | intro _

def parse.Feed.body0.c (k : Nat) (in_ : api.Input) (l : api.Limits) (s115 : parse.Feed.S0) : Option (parse.Feed.S0 ⊕ ((List UInt8) × (List (List UInt8)) × Int × Int × Bool × Int × Int × (List UInt8) × Int × Int × Int × (List api.Request))) :=
 (parse.parser.step.c k ({ in_ := ({ Rest := s115.c, Args := s115.c2, Left := s115.c3, Size := s115.c4, Body := s115.c5, Need := s115.c6, Dead := s115.c7 } : api.Input), s := s115.c8, l := ({ Args := s115.c9, Bulk := s115.c10, Line := s115.c11 } : api.Limits), out := s115.c12 } : parse.parser)).bind fun r121 =>
 if r121.1 = true then
  some (.inl ⟨r121.2.in_.Rest, r121.2.in_.Args, r121.2.in_.Left, r121.2.in_.Size, r121.2.in_.Body, r121.2.in_.Need, r121.2.in_.Dead, r121.2.s, r121.2.l.Args, r121.2.l.Bulk, r121.2.l.Line, r121.2.out⟩)
 else
  some (.inr (r121.2.in_.Rest, r121.2.in_.Args, r121.2.in_.Left, r121.2.in_.Size, r121.2.in_.Body, r121.2.in_.Need, r121.2.in_.Dead, r121.2.s, r121.2.l.Args, r121.2.l.Bulk, r121.2.l.Line, r121.2.out))

theorem parse.Feed.body0.c_le (k : Nat) (in_ : api.Input) (l : api.Limits) (s115 : parse.Feed.S0) : OLe (parse.Feed.body0.c k in_ l s115) (parse.Feed.body0 in_ l s115) := by
 unfold parse.Feed.body0.c parse.Feed.body0
 repeat' with_reducible first | exact OLe.refl _ | apply parse.parser.step.c_le | apply OLe.bind | apply OLe.need | apply OLe.letO | apply OLe.onSum | apply OLe.ite | intro _

def parse.Feed.loop0.c (k : Nat) (in_ : api.Input) (l : api.Limits) (s115 : parse.Feed.S0) : Option ((List UInt8) × (List (List UInt8)) × Int × Int × Bool × Int × Int × (List UInt8) × Int × Int × Int × (List api.Request)) := iterO (parse.Feed.body0.c k in_ l) k s115

theorem parse.Feed.loop0.c_le (k : Nat) (in_ : api.Input) (l : api.Limits) (s115 : parse.Feed.S0) : OLe (parse.Feed.loop0.c k in_ l s115) (parse.Feed.loop0 in_ l s115) := by
 unfold parse.Feed.loop0.c parse.Feed.loop0
 exact OLe.iter (fun s => parse.Feed.body0.c_le k in_ l s) k _

def parse.Feed.c (k : Nat) (in_ : api.Input) (b : List UInt8) (l : api.Limits) : Option (api.Input × (List api.Request) × Int) :=
 if in_.Dead = 0 then
  need (in_.Rest.length + b.length ≤ 9223372036854775807) <|
  (parse.Limits.c k l).bind fun r69 =>
  (slices.Clone_string.c k in_.Args).bind fun r71 =>
  (parse.Feed.loop0.c k in_ l ⟨([] : List UInt8), r71, in_.Left, in_.Size, in_.Body, in_.Need, in_.Dead, in_.Rest ++ b, r69.Args, r69.Bulk, r69.Line, ([] : List api.Request)⟩).bind fun s97 =>
  (strings.Clone.c k s97.2.2.2.2.2.2.2.1).bind fun r126 =>
  some (({ Rest := r126, Args := s97.2.1, Left := s97.2.2.1, Size := s97.2.2.2.1, Body := s97.2.2.2.2.1, Need := s97.2.2.2.2.2.1, Dead := s97.2.2.2.2.2.2.1 } : api.Input), s97.2.2.2.2.2.2.2.2.2.2.2, s97.2.2.2.2.2.2.1)
 else
  some (({ Rest := ([] : List UInt8), Args := ([] : List (List UInt8)), Left := 0, Size := 0, Body := false, Need := 0, Dead := in_.Dead } : api.Input), ([] : List api.Request), in_.Dead)

theorem parse.Feed.c_le (k : Nat) (in_ : api.Input) (b : List UInt8) (l : api.Limits) : OLe (parse.Feed.c k in_ b l) (parse.Feed in_ b l) := by
 unfold parse.Feed.c parse.Feed
 repeat' with_reducible first | exact OLe.refl _ | apply parse.Limits.c_le | apply slices.Clone_string.c_le | apply parse.Feed.loop0.c_le | apply strings.Clone.c_le | apply OLe.bind | apply OLe.need | apply OLe.letO | apply OLe.onSum | apply OLe.ite | intro _

def table.Upper.body0.c (k : Nat) (name : List UInt8) (s317 : table.Upper.S0) : Option (table.Upper.S0 ⊕ (List UInt8)) :=
 if s317.t10 < (name.length : Int) then
  (
   need (InB s317.t10 s317.v.length) <|
   need (InB s317.t10 s317.v.length) <|
   letO (
    if 97 ≤ ((ix s317.v s317.t10).toNat : Int) then
     decide (((ix s317.v s317.t10).toNat : Int) ≤ 122)
    else
     false) fun s338 =>
   if s338 = true then
    need (InB s317.t10 s317.v.length) <|
    need (InB s317.t10 s317.v.length) <|
    need (IsU8 (IntKind.wrap .u8 ((IntKind.wrap .u8 (((ix s317.v s317.t10).toNat : Int) - 97)) + 65))) <|
    some (upd s317.v s317.t10 (u8 (IntKind.wrap .u8 ((IntKind.wrap .u8 (((ix s317.v s317.t10).toNat : Int) - 97)) + 65))))
   else
    some s317.v).bind fun s332 =>
  some (.inl ⟨IntKind.wrap .i64 (s317.t10 + 1), s332⟩)
 else
  some (.inr s317.v)

theorem table.Upper.body0.c_le (k : Nat) (name : List UInt8) (s317 : table.Upper.S0) : OLe (table.Upper.body0.c k name s317) (table.Upper.body0 name s317) := by
 unfold table.Upper.body0.c table.Upper.body0
 repeat' with_reducible first | exact OLe.refl _ | apply OLe.bind | apply OLe.need | apply OLe.letO | apply OLe.onSum | apply OLe.ite | intro _

def table.Upper.loop0.c (k : Nat) (name : List UInt8) (s317 : table.Upper.S0) : Option (List UInt8) := iterO (table.Upper.body0.c k name) k s317

theorem table.Upper.loop0.c_le (k : Nat) (name : List UInt8) (s317 : table.Upper.S0) : OLe (table.Upper.loop0.c k name s317) (table.Upper.loop0 name s317) := by
 unfold table.Upper.loop0.c table.Upper.loop0
 exact OLe.iter (fun s => table.Upper.body0.c_le k name s) k _

def table.Upper.c (k : Nat) (name : List UInt8) : Option (List UInt8) :=
 need (name.length ≤ 140737488355328) <|
 (table.Upper.loop0.c k name ⟨0, name⟩).bind fun s260 =>
 some s260

theorem table.Upper.c_le (k : Nat) (name : List UInt8) : OLe (table.Upper.c k name) (table.Upper name) := by
 unfold table.Upper.c table.Upper
 repeat' with_reducible first | exact OLe.refl _ | apply table.Upper.loop0.c_le | apply OLe.bind | apply OLe.need | apply OLe.letO | apply OLe.onSum | apply OLe.ite | intro _

def auth.Find_1.c (k : Nat) (t_ : api.Tenant) (a1_ : List UInt8) : Option Bool :=
 some (decide (t_.Token = a1_))

theorem auth.Find_1.c_le (k : Nat) (t_ : api.Tenant) (a1_ : List UInt8) : OLe (auth.Find_1.c k t_ a1_) (auth.Find_1 t_ a1_) := by
 unfold auth.Find_1.c auth.Find_1
 repeat' with_reducible first | exact OLe.refl _ | apply OLe.bind | apply OLe.need | apply OLe.letO | apply OLe.onSum | apply OLe.ite | intro _

def slices.IndexFunc_api_Tenant_auth_Find_1.body0.c (k : Nat) (s_ : List api.Tenant) (b0_ : List UInt8) (s72 : slices.IndexFunc_api_Tenant_auth_Find_1.S0) : Option (slices.IndexFunc_api_Tenant_auth_Find_1.S0 ⊕ (Unit ⊕ Int)) :=
 if s72.t8 < (s_.length : Int) then
  need (InB s72.t8 s_.length) <|
  (auth.Find_1.c k (ix s_ s72.t8) b0_).bind fun r77 =>
  if r77 = true then
   some (.inr (.inr s72.t8))
  else
   some (.inl ⟨IntKind.wrap .i64 (s72.t8 + 1)⟩)
 else
  some (.inr (.inl ()))

theorem slices.IndexFunc_api_Tenant_auth_Find_1.body0.c_le (k : Nat) (s_ : List api.Tenant) (b0_ : List UInt8) (s72 : slices.IndexFunc_api_Tenant_auth_Find_1.S0) : OLe (slices.IndexFunc_api_Tenant_auth_Find_1.body0.c k s_ b0_ s72) (slices.IndexFunc_api_Tenant_auth_Find_1.body0 s_ b0_ s72) := by
 unfold slices.IndexFunc_api_Tenant_auth_Find_1.body0.c slices.IndexFunc_api_Tenant_auth_Find_1.body0
 repeat' with_reducible first | exact OLe.refl _ | apply auth.Find_1.c_le | apply OLe.bind | apply OLe.need | apply OLe.letO | apply OLe.onSum | apply OLe.ite | intro _

def slices.IndexFunc_api_Tenant_auth_Find_1.loop0.c (k : Nat) (s_ : List api.Tenant) (b0_ : List UInt8) (s72 : slices.IndexFunc_api_Tenant_auth_Find_1.S0) : Option (Unit ⊕ Int) := iterO (slices.IndexFunc_api_Tenant_auth_Find_1.body0.c k s_ b0_) k s72

theorem slices.IndexFunc_api_Tenant_auth_Find_1.loop0.c_le (k : Nat) (s_ : List api.Tenant) (b0_ : List UInt8) (s72 : slices.IndexFunc_api_Tenant_auth_Find_1.S0) : OLe (slices.IndexFunc_api_Tenant_auth_Find_1.loop0.c k s_ b0_ s72) (slices.IndexFunc_api_Tenant_auth_Find_1.loop0 s_ b0_ s72) := by
 unfold slices.IndexFunc_api_Tenant_auth_Find_1.loop0.c slices.IndexFunc_api_Tenant_auth_Find_1.loop0
 exact OLe.iter (fun s => slices.IndexFunc_api_Tenant_auth_Find_1.body0.c_le k s_ b0_ s) k _

def slices.IndexFunc_api_Tenant_auth_Find_1.c (k : Nat) (s_ : List api.Tenant) (b0_ : List UInt8) : Option Int :=
 (slices.IndexFunc_api_Tenant_auth_Find_1.loop0.c k s_ b0_ ⟨0⟩).bind fun s80 => onSum s80 (fun s59 =>
  some (-1)) fun s80x => some s80x

theorem slices.IndexFunc_api_Tenant_auth_Find_1.c_le (k : Nat) (s_ : List api.Tenant) (b0_ : List UInt8) : OLe (slices.IndexFunc_api_Tenant_auth_Find_1.c k s_ b0_) (slices.IndexFunc_api_Tenant_auth_Find_1 s_ b0_) := by
 unfold slices.IndexFunc_api_Tenant_auth_Find_1.c slices.IndexFunc_api_Tenant_auth_Find_1
 repeat' with_reducible first | exact OLe.refl _ | apply slices.IndexFunc_api_Tenant_auth_Find_1.loop0.c_le | apply OLe.bind | apply OLe.need | apply OLe.letO | apply OLe.onSum | apply OLe.ite | intro _

def auth.Find.c (k : Nat) (c_ : api.Config) (token : List UInt8) : Option Int :=
 (slices.IndexFunc_api_Tenant_auth_Find_1.c k c_.Tenants token).bind fun r6 =>
 some r6

theorem auth.Find.c_le (k : Nat) (c_ : api.Config) (token : List UInt8) : OLe (auth.Find.c k c_ token) (auth.Find c_ token) := by
 unfold auth.Find.c auth.Find
 repeat' with_reducible first | exact OLe.refl _ | apply slices.IndexFunc_api_Tenant_auth_Find_1.c_le | apply OLe.bind | apply OLe.need | apply OLe.letO | apply OLe.onSum | apply OLe.ite | intro _

def auth.verdict.c (k : Nat) (c_ : api.Config) (call : List (List UInt8)) : Option (Int × Int) :=
 (
  need (InB 0 call.length) <|
  (table.Upper.c k (ix call 0)).bind fun r23 =>
  if r23 = [65, 85, 84, 72] then
   some (!decide ((call.length : Int) = 2))
  else
   some true).bind fun s19 =>
 if s19 = true then
  some ((-1), 2)
 else
  need (InB 1 call.length) <|
  (auth.Find.c k c_ (ix call 1)).bind fun r26 =>
  if r26 < 0 then
   some ((-1), 3)
  else
   some (r26, 1)

theorem auth.verdict.c_le (k : Nat) (c_ : api.Config) (call : List (List UInt8)) : OLe (auth.verdict.c k c_ call) (auth.verdict c_ call) := by
 unfold auth.verdict.c auth.verdict
 repeat' with_reducible first | exact OLe.refl _ | apply table.Upper.c_le | apply auth.Find.c_le | apply OLe.bind | apply OLe.need | apply OLe.letO | apply OLe.onSum | apply OLe.ite | intro _

def auth.First.body0.c (k : Nat) (s_ : List UInt8) (c_ : api.Config) (s145 : auth.First.S0) : Option (auth.First.S0 ⊕ (((List UInt8) × (List (List UInt8)) × Int × Int × Bool × Int × Int) ⊕ (api.Input × (List UInt8) × Int × Int))) :=
 if s145.t22 < (s_.length : Int) then
  need (InR s145.t22 (IntKind.wrap .i64 (s145.t22 + 1)) s_.length) <|
  (auth.limits.c k).bind fun r150 =>
  (parse.Feed.c k ({ Rest := s145.c, Args := s145.c2, Left := s145.c3, Size := s145.c4, Body := s145.c5, Need := s145.c6, Dead := s145.c7 } : api.Input) (sub s_ s145.t22 (IntKind.wrap .i64 (s145.t22 + 1))) r150).bind fun r151 =>
  if r151.2.2 = 0 then
   if 0 < (r151.2.1.length : Int) then
    need (InB 0 r151.2.1.length) <|
    (auth.verdict.c k c_ (ix r151.2.1 0).Args).bind fun r154 =>
    need (InR (IntKind.wrap .i64 (s145.t22 + 1)) (s_.length : Int) s_.length) <|
    some (.inr (.inr (({ Rest := ([] : List UInt8), Args := ([] : List (List UInt8)), Left := 0, Size := 0, Body := false, Need := 0, Dead := 0 } : api.Input), sub s_ (IntKind.wrap .i64 (s145.t22 + 1)) (s_.length : Int), r154.1, r154.2)))
   else
    some (.inl ⟨IntKind.wrap .i64 (s145.t22 + 1), r151.1.Rest, r151.1.Args, r151.1.Left, r151.1.Size, r151.1.Body, r151.1.Need, r151.1.Dead⟩)
  else
   some (.inr (.inr (r151.1, ([] : List UInt8), (-1), 4)))
 else
  some (.inr (.inl (s145.c, s145.c2, s145.c3, s145.c4, s145.c5, s145.c6, s145.c7)))

theorem auth.First.body0.c_le (k : Nat) (s_ : List UInt8) (c_ : api.Config) (s145 : auth.First.S0) : OLe (auth.First.body0.c k s_ c_ s145) (auth.First.body0 s_ c_ s145) := by
 unfold auth.First.body0.c auth.First.body0
 repeat' with_reducible first | exact OLe.refl _ | apply auth.limits.c_le | apply parse.Feed.c_le | apply auth.verdict.c_le | apply OLe.bind | apply OLe.need | apply OLe.letO | apply OLe.onSum | apply OLe.ite | intro _

def auth.First.loop0.c (k : Nat) (s_ : List UInt8) (c_ : api.Config) (s145 : auth.First.S0) : Option (((List UInt8) × (List (List UInt8)) × Int × Int × Bool × Int × Int) ⊕ (api.Input × (List UInt8) × Int × Int)) := iterO (auth.First.body0.c k s_ c_) k s145

theorem auth.First.loop0.c_le (k : Nat) (s_ : List UInt8) (c_ : api.Config) (s145 : auth.First.S0) : OLe (auth.First.loop0.c k s_ c_ s145) (auth.First.loop0 s_ c_ s145) := by
 unfold auth.First.loop0.c auth.First.loop0
 exact OLe.iter (fun s => auth.First.body0.c_le k s_ c_ s) k _

def auth.First.c (k : Nat) (c_ : api.Config) (in_ : api.Input) (s_ : List UInt8) : Option (api.Input × (List UInt8) × Int × Int) :=
 if in_.Dead = 0 then
  (auth.First.loop0.c k s_ c_ ⟨0, in_.Rest, in_.Args, in_.Left, in_.Size, in_.Body, in_.Need, in_.Dead⟩).bind fun s159 => onSum s159 (fun s120 =>
   some (({ Rest := s120.1, Args := s120.2.1, Left := s120.2.2.1, Size := s120.2.2.2.1, Body := s120.2.2.2.2.1, Need := s120.2.2.2.2.2.1, Dead := s120.2.2.2.2.2.2 } : api.Input), ([] : List UInt8), (-1), 0)) fun s159x => some s159x
 else
  some (in_, ([] : List UInt8), (-1), 4)

theorem auth.First.c_le (k : Nat) (c_ : api.Config) (in_ : api.Input) (s_ : List UInt8) : OLe (auth.First.c k c_ in_ s_) (auth.First c_ in_ s_) := by
 unfold auth.First.c auth.First
 repeat' with_reducible first | exact OLe.refl _ | apply auth.First.loop0.c_le | apply OLe.bind | apply OLe.need | apply OLe.letO | apply OLe.onSum | apply OLe.ite | intro _

def auth.Label.body0.c (k : Nat) (pieces : List (List UInt8)) (c_ : api.Config) (s87 : auth.Label.S0) : Option (auth.Label.S0 ⊕ (Unit ⊕ Int)) :=
 if s87.t15 < (pieces.length : Int) then
  need (InB s87.t15 pieces.length) <|
  (auth.First.c k c_ ({ Rest := s87.c, Args := s87.c2, Left := s87.c3, Size := s87.c4, Body := s87.c5, Need := s87.c6, Dead := s87.c7 } : api.Input) (ix pieces s87.t15)).bind fun r92 =>
  if r92.2.2.2 = 0 then
   some (.inl ⟨IntKind.wrap .i64 (s87.t15 + 1), r92.1.Rest, r92.1.Args, r92.1.Left, r92.1.Size, r92.1.Body, r92.1.Need, r92.1.Dead⟩)
  else
   some (.inr (.inr r92.2.2.1))
 else
  some (.inr (.inl ()))

theorem auth.Label.body0.c_le (k : Nat) (pieces : List (List UInt8)) (c_ : api.Config) (s87 : auth.Label.S0) : OLe (auth.Label.body0.c k pieces c_ s87) (auth.Label.body0 pieces c_ s87) := by
 unfold auth.Label.body0.c auth.Label.body0
 repeat' with_reducible first | exact OLe.refl _ | apply auth.First.c_le | apply OLe.bind | apply OLe.need | apply OLe.letO | apply OLe.onSum | apply OLe.ite | intro _

def auth.Label.loop0.c (k : Nat) (pieces : List (List UInt8)) (c_ : api.Config) (s87 : auth.Label.S0) : Option (Unit ⊕ Int) := iterO (auth.Label.body0.c k pieces c_) k s87

theorem auth.Label.loop0.c_le (k : Nat) (pieces : List (List UInt8)) (c_ : api.Config) (s87 : auth.Label.S0) : OLe (auth.Label.loop0.c k pieces c_ s87) (auth.Label.loop0 pieces c_ s87) := by
 unfold auth.Label.loop0.c auth.Label.loop0
 exact OLe.iter (fun s => auth.Label.body0.c_le k pieces c_ s) k _

def auth.Label.c (k : Nat) (c_ : api.Config) (pieces : List (List UInt8)) : Option Int :=
 (auth.Label.loop0.c k pieces c_ ⟨0, ([] : List UInt8), ([] : List (List UInt8)), 0, 0, false, 0, 0⟩).bind fun s96 => onSum s96 (fun s72 =>
  some (-1)) fun s96x => some s96x

theorem auth.Label.c_le (k : Nat) (c_ : api.Config) (pieces : List (List UInt8)) : OLe (auth.Label.c k c_ pieces) (auth.Label c_ pieces) := by
 unfold auth.Label.c auth.Label
 repeat' with_reducible first | exact OLe.refl _ | apply auth.Label.loop0.c_le | apply OLe.bind | apply OLe.need | apply OLe.letO | apply OLe.onSum | apply OLe.ite | intro _

def project.Of.c (k : Nat) (c_ : api.Config) (l : List api.Event) (handle : Int) : Option Int :=
 (script.Bytes.c k l handle).bind fun r5 =>
 (auth.Label.c k c_ [r5]).bind fun r6 =>
 some r6

theorem project.Of.c_le (k : Nat) (c_ : api.Config) (l : List api.Event) (handle : Int) : OLe (project.Of.c k c_ l handle) (project.Of c_ l handle) := by
 unfold project.Of.c project.Of
 repeat' with_reducible first | exact OLe.refl _ | apply script.Bytes.c_le | apply auth.Label.c_le | apply OLe.bind | apply OLe.need | apply OLe.letO | apply OLe.onSum | apply OLe.ite | intro _

def project.labels.body0.c (k : Nat) (l : List api.Event) (c_ : api.Config) (s317 : project.labels.S0) : Option (project.labels.S0 ⊕ (List (Int × Int))) :=
 if s317.t13 < (l.length : Int) then
  (
   need (InB s317.t13 l.length) <|
   need (mkI.wf (ix l s317.t13).Handle = true) <|
   letO (
    if (!(mpHas s317.b (ix l s317.t13).Handle)) = true then
     decide ((ix l s317.t13).Kind = 1)
    else
     false) fun s339 =>
   if s339 = true then
    (project.Of.c k c_ l (ix l s317.t13).Handle).bind fun r343 =>
    need (mkI.wf (ix l s317.t13).Handle = true ∧ s317.b.length < maxLen) <|
    some (mpPut mkI s317.b (ix l s317.t13).Handle r343)
   else
    some s317.b).bind fun s332 =>
  some (.inl ⟨IntKind.wrap .i64 (s317.t13 + 1), s332⟩)
 else
  some (.inr s317.b)

theorem project.labels.body0.c_le (k : Nat) (l : List api.Event) (c_ : api.Config) (s317 : project.labels.S0) : OLe (project.labels.body0.c k l c_ s317) (project.labels.body0 l c_ s317) := by
 unfold project.labels.body0.c project.labels.body0
 repeat' with_reducible first | exact OLe.refl _ | apply project.Of.c_le | apply OLe.bind | apply OLe.need | apply OLe.letO | apply OLe.onSum | apply OLe.ite | intro _

def project.labels.loop0.c (k : Nat) (l : List api.Event) (c_ : api.Config) (s317 : project.labels.S0) : Option (List (Int × Int)) := iterO (project.labels.body0.c k l c_) k s317

theorem project.labels.loop0.c_le (k : Nat) (l : List api.Event) (c_ : api.Config) (s317 : project.labels.S0) : OLe (project.labels.loop0.c k l c_ s317) (project.labels.loop0 l c_ s317) := by
 unfold project.labels.loop0.c project.labels.loop0
 exact OLe.iter (fun s => project.labels.body0.c_le k l c_ s) k _

def project.labels.c (k : Nat) (c_ : api.Config) (l : List api.Event) : Option (List (Int × Int)) :=
 (project.labels.loop0.c k l c_ ⟨0, ([] : List (Int × Int))⟩).bind fun s260 =>
 some s260

theorem project.labels.c_le (k : Nat) (c_ : api.Config) (l : List api.Event) : OLe (project.labels.c k c_ l) (project.labels c_ l) := by
 unfold project.labels.c project.labels
 repeat' with_reducible first | exact OLe.refl _ | apply project.labels.loop0.c_le | apply OLe.bind | apply OLe.need | apply OLe.letO | apply OLe.onSum | apply OLe.ite | intro _

def project.Labels.body0.c (k : Nat) (r61 : List (Int × Int)) (s108 : project.Labels.S0) : Option (project.Labels.S0 ⊕ (List api.Label)) :=
 if s108.t16 < (((List.map Prod.fst r61).mergeSort fun x y => decide (x ≤ y)).length : Int) then
  need (InB s108.t16 ((List.map Prod.fst r61).mergeSort fun x y => decide (x ≤ y)).length) <|
  need (mkI.wf (ix ((List.map Prod.fst r61).mergeSort fun x y => decide (x ≤ y)) s108.t16) = true) <|
  need ((s108.out.length + [({ Handle := ix ((List.map Prod.fst r61).mergeSort fun x y => decide (x ≤ y)) s108.t16, Tenant := ((mpGet r61 (ix ((List.map Prod.fst r61).mergeSort fun x y => decide (x ≤ y)) s108.t16)).getD 0) } : api.Label)].length) * 16 ≤ 140737488355328) <|
  some (.inl ⟨s108.out ++ [({ Handle := ix ((List.map Prod.fst r61).mergeSort fun x y => decide (x ≤ y)) s108.t16, Tenant := ((mpGet r61 (ix ((List.map Prod.fst r61).mergeSort fun x y => decide (x ≤ y)) s108.t16)).getD 0) } : api.Label)], IntKind.wrap .i64 (s108.t16 + 1)⟩)
 else
  some (.inr s108.out)

theorem project.Labels.body0.c_le (k : Nat) (r61 : List (Int × Int)) (s108 : project.Labels.S0) : OLe (project.Labels.body0.c k r61 s108) (project.Labels.body0 r61 s108) := by
 unfold project.Labels.body0.c project.Labels.body0
 repeat' with_reducible first | exact OLe.refl _ | apply OLe.bind | apply OLe.need | apply OLe.letO | apply OLe.onSum | apply OLe.ite | intro _

def project.Labels.loop0.c (k : Nat) (r61 : List (Int × Int)) (s108 : project.Labels.S0) : Option (List api.Label) := iterO (project.Labels.body0.c k r61) k s108

theorem project.Labels.loop0.c_le (k : Nat) (r61 : List (Int × Int)) (s108 : project.Labels.S0) : OLe (project.Labels.loop0.c k r61 s108) (project.Labels.loop0 r61 s108) := by
 unfold project.Labels.loop0.c project.Labels.loop0
 exact OLe.iter (fun s => project.Labels.body0.c_le k r61 s) k _

def project.Labels.c (k : Nat) (c_ : api.Config) (l : List api.Event) : Option (List api.Label) :=
 (project.labels.c k c_ l).bind fun r61 =>
 (
  need (r61.length * 8 ≤ 140737488355328) <|
  project.Labels.loop0.c k r61 ⟨([] : List api.Label), 0⟩).bind fun s89 =>
 some s89

theorem project.Labels.c_le (k : Nat) (c_ : api.Config) (l : List api.Event) : OLe (project.Labels.c k c_ l) (project.Labels c_ l) := by
 unfold project.Labels.c project.Labels
 repeat' with_reducible first | exact OLe.refl _ | apply project.labels.c_le | apply project.Labels.loop0.c_le | apply OLe.bind | apply OLe.need | apply OLe.letO | apply OLe.onSum | apply OLe.ite | intro _

def project.Tenant_1.c (k : Nat) (handle : Int) (a2_ : Int) (tab : List (Int × Int)) : Option Bool :=
 need (mkI.wf handle = true) <|
 letO (
  if (mpHas tab handle) = true then
   if ((mpGet tab handle).getD 0) = a2_ then
    decide (0 ≤ a2_)
   else
    false
  else
   false) fun s12 =>
 some s12

theorem project.Tenant_1.c_le (k : Nat) (handle : Int) (a2_ : Int) (tab : List (Int × Int)) : OLe (project.Tenant_1.c k handle a2_ tab) (project.Tenant_1 handle a2_ tab) := by
 unfold project.Tenant_1.c project.Tenant_1
 repeat' with_reducible first | exact OLe.refl _ | apply OLe.bind | apply OLe.need | apply OLe.letO | apply OLe.onSum | apply OLe.ite | intro _

def slices.Clone_api_Left.c (k : Nat) (s : List api.Left) : Option (List api.Left) :=
 need ((([] : List api.Left).length + s.length) * 32 ≤ 140737488355328) <|
 some s

theorem slices.Clone_api_Left.c_le (k : Nat) (s : List api.Left) : OLe (slices.Clone_api_Left.c k s) (slices.Clone_api_Left s) := by
 unfold slices.Clone_api_Left.c slices.Clone_api_Left
 repeat' with_reducible first | exact OLe.refl _ | apply OLe.bind | apply OLe.need | apply OLe.letO | apply OLe.onSum | apply OLe.ite | intro _

def project.Tenant_2.c (k : Nat) (x_ : api.Left) (a1_ : Int) (a2_ : api.Config) : Option Bool :=
 letO (
  if x_.Tenant = a1_ then
   if a1_ < 0 then
    true
   else
    decide ((a2_.Tenants.length : Int) ≤ a1_)
  else
   true) fun s12 =>
 some s12

theorem project.Tenant_2.c_le (k : Nat) (x_ : api.Left) (a1_ : Int) (a2_ : api.Config) : OLe (project.Tenant_2.c k x_ a1_ a2_) (project.Tenant_2 x_ a1_ a2_) := by
 unfold project.Tenant_2.c project.Tenant_2
 repeat' with_reducible first | exact OLe.refl _ | apply OLe.bind | apply OLe.need | apply OLe.letO | apply OLe.onSum | apply OLe.ite | intro _

def slices.IndexFunc_api_Left_v_project_Tenant_2.body0.c (k : Nat) (s_ : List api.Left) (b1_ : Int) (b2_ : api.Config) (s83 : slices.IndexFunc_api_Left_v_project_Tenant_2.S0) : Option (slices.IndexFunc_api_Left_v_project_Tenant_2.S0 ⊕ (Unit ⊕ Int)) :=
 if s83.t8 < (s_.length : Int) then
  need (InB s83.t8 s_.length) <|
  need (InB s83.t8 s_.length) <|
  (project.Tenant_2.c k (ix s_ s83.t8) b1_ b2_).bind fun r89 =>
  if r89 = true then
   some (.inr (.inr s83.t8))
  else
   some (.inl ⟨IntKind.wrap .i64 (s83.t8 + 1)⟩)
 else
  some (.inr (.inl ()))

theorem slices.IndexFunc_api_Left_v_project_Tenant_2.body0.c_le (k : Nat) (s_ : List api.Left) (b1_ : Int) (b2_ : api.Config) (s83 : slices.IndexFunc_api_Left_v_project_Tenant_2.S0) : OLe (slices.IndexFunc_api_Left_v_project_Tenant_2.body0.c k s_ b1_ b2_ s83) (slices.IndexFunc_api_Left_v_project_Tenant_2.body0 s_ b1_ b2_ s83) := by
 unfold slices.IndexFunc_api_Left_v_project_Tenant_2.body0.c slices.IndexFunc_api_Left_v_project_Tenant_2.body0
 repeat' with_reducible first | exact OLe.refl _ | apply project.Tenant_2.c_le | apply OLe.bind | apply OLe.need | apply OLe.letO | apply OLe.onSum | apply OLe.ite | intro _

def slices.IndexFunc_api_Left_v_project_Tenant_2.loop0.c (k : Nat) (s_ : List api.Left) (b1_ : Int) (b2_ : api.Config) (s83 : slices.IndexFunc_api_Left_v_project_Tenant_2.S0) : Option (Unit ⊕ Int) := iterO (slices.IndexFunc_api_Left_v_project_Tenant_2.body0.c k s_ b1_ b2_) k s83

theorem slices.IndexFunc_api_Left_v_project_Tenant_2.loop0.c_le (k : Nat) (s_ : List api.Left) (b1_ : Int) (b2_ : api.Config) (s83 : slices.IndexFunc_api_Left_v_project_Tenant_2.S0) : OLe (slices.IndexFunc_api_Left_v_project_Tenant_2.loop0.c k s_ b1_ b2_ s83) (slices.IndexFunc_api_Left_v_project_Tenant_2.loop0 s_ b1_ b2_ s83) := by
 unfold slices.IndexFunc_api_Left_v_project_Tenant_2.loop0.c slices.IndexFunc_api_Left_v_project_Tenant_2.loop0
 exact OLe.iter (fun s => slices.IndexFunc_api_Left_v_project_Tenant_2.body0.c_le k s_ b1_ b2_ s) k _

def slices.IndexFunc_api_Left_v_project_Tenant_2.c (k : Nat) (s_ : List api.Left) (b1_ : Int) (b2_ : api.Config) : Option Int :=
 (slices.IndexFunc_api_Left_v_project_Tenant_2.loop0.c k s_ b1_ b2_ ⟨0⟩).bind fun s92 => onSum s92 (fun s68 =>
  some (-1)) fun s92x => some s92x

theorem slices.IndexFunc_api_Left_v_project_Tenant_2.c_le (k : Nat) (s_ : List api.Left) (b1_ : Int) (b2_ : api.Config) : OLe (slices.IndexFunc_api_Left_v_project_Tenant_2.c k s_ b1_ b2_) (slices.IndexFunc_api_Left_v_project_Tenant_2 s_ b1_ b2_) := by
 unfold slices.IndexFunc_api_Left_v_project_Tenant_2.c slices.IndexFunc_api_Left_v_project_Tenant_2
 repeat' with_reducible first | exact OLe.refl _ | apply slices.IndexFunc_api_Left_v_project_Tenant_2.loop0.c_le | apply OLe.bind | apply OLe.need | apply OLe.letO | apply OLe.onSum | apply OLe.ite | intro _

def slices.DeleteFunc_api_Left_v_project_Tenant_2.body0.c (k : Nat) (b1_ : Int) (b2_ : api.Config) (s231 : slices.DeleteFunc_api_Left_v_project_Tenant_2.S0) : Option (slices.DeleteFunc_api_Left_v_project_Tenant_2.S0 ⊕ (Int × (List api.Left))) :=
 if s231.j < (s231.v.length : Int) then
  (
   need (InB s231.j s231.v.length) <|
   need (InB s231.j s231.v.length) <|
   (project.Tenant_2.c k (ix s231.v s231.j) b1_ b2_).bind fun r248 =>
   if (!r248) = true then
    need (InB s231.i s231.v.length) <|
    need (InB s231.i s231.v.length) <|
    some (IntKind.wrap .i64 (s231.i + 1), upd s231.v s231.i (ix s231.v s231.j))
   else
    some (s231.i, s231.v)).bind fun s242 =>
  some (.inl ⟨s242.1, IntKind.wrap .i64 (s231.j + 1), s242.2⟩)
 else
  some (.inr (s231.i, s231.v))

theorem slices.DeleteFunc_api_Left_v_project_Tenant_2.body0.c_le (k : Nat) (b1_ : Int) (b2_ : api.Config) (s231 : slices.DeleteFunc_api_Left_v_project_Tenant_2.S0) : OLe (slices.DeleteFunc_api_Left_v_project_Tenant_2.body0.c k b1_ b2_ s231) (slices.DeleteFunc_api_Left_v_project_Tenant_2.body0 b1_ b2_ s231) := by
 unfold slices.DeleteFunc_api_Left_v_project_Tenant_2.body0.c slices.DeleteFunc_api_Left_v_project_Tenant_2.body0
 repeat' with_reducible first | exact OLe.refl _ | apply project.Tenant_2.c_le | apply OLe.bind | apply OLe.need | apply OLe.letO | apply OLe.onSum | apply OLe.ite | intro _

def slices.DeleteFunc_api_Left_v_project_Tenant_2.loop0.c (k : Nat) (b1_ : Int) (b2_ : api.Config) (s231 : slices.DeleteFunc_api_Left_v_project_Tenant_2.S0) : Option (Int × (List api.Left)) := iterO (slices.DeleteFunc_api_Left_v_project_Tenant_2.body0.c k b1_ b2_) k s231

theorem slices.DeleteFunc_api_Left_v_project_Tenant_2.loop0.c_le (k : Nat) (b1_ : Int) (b2_ : api.Config) (s231 : slices.DeleteFunc_api_Left_v_project_Tenant_2.S0) : OLe (slices.DeleteFunc_api_Left_v_project_Tenant_2.loop0.c k b1_ b2_ s231) (slices.DeleteFunc_api_Left_v_project_Tenant_2.loop0 b1_ b2_ s231) := by
 unfold slices.DeleteFunc_api_Left_v_project_Tenant_2.loop0.c slices.DeleteFunc_api_Left_v_project_Tenant_2.loop0
 exact OLe.iter (fun s => slices.DeleteFunc_api_Left_v_project_Tenant_2.body0.c_le k b1_ b2_ s) k _

def slices.DeleteFunc_api_Left_v_project_Tenant_2.c (k : Nat) (s_ : List api.Left) (b1_ : Int) (b2_ : api.Config) : Option (List api.Left) :=
 (slices.IndexFunc_api_Left_v_project_Tenant_2.c k s_ b1_ b2_).bind fun r129 =>
 if r129 = (-1) then
  some s_
 else
  (slices.DeleteFunc_api_Left_v_project_Tenant_2.loop0.c k b1_ b2_ ⟨r129, IntKind.wrap .i64 (r129 + 1), s_⟩).bind fun s190 =>
  need (InR s190.1 (s190.2.length : Int) s190.2.length) <|
  need (InP s190.1 (s190.2.length : Int) s190.2.length) <|
  need (InR 0 s190.1 (clrL s190.2 (Int.toNat s190.1) (Int.toNat (s190.2.length : Int)) (({ Tenant := 0, Keep := ({ Name := ([] : List UInt8), Bytes := 0 } : api.Keep) } : api.Left) : api.Left)).length) <|
  need (0 ≤ s190.1 ∧ s190.1 ≤ ((clrL s190.2 (Int.toNat s190.1) (Int.toNat (s190.2.length : Int)) (({ Tenant := 0, Keep := ({ Name := ([] : List UInt8), Bytes := 0 } : api.Keep) } : api.Left) : api.Left)).length : Int)) <|
  some (List.take (Int.toNat s190.1) (clrL s190.2 (Int.toNat s190.1) (Int.toNat (s190.2.length : Int)) (({ Tenant := 0, Keep := ({ Name := ([] : List UInt8), Bytes := 0 } : api.Keep) } : api.Left) : api.Left)))

theorem slices.DeleteFunc_api_Left_v_project_Tenant_2.c_le (k : Nat) (s_ : List api.Left) (b1_ : Int) (b2_ : api.Config) : OLe (slices.DeleteFunc_api_Left_v_project_Tenant_2.c k s_ b1_ b2_) (slices.DeleteFunc_api_Left_v_project_Tenant_2 s_ b1_ b2_) := by
 unfold slices.DeleteFunc_api_Left_v_project_Tenant_2.c slices.DeleteFunc_api_Left_v_project_Tenant_2
 repeat' with_reducible first | exact OLe.refl _ | apply slices.IndexFunc_api_Left_v_project_Tenant_2.c_le | apply slices.DeleteFunc_api_Left_v_project_Tenant_2.loop0.c_le | apply OLe.bind | apply OLe.need | apply OLe.letO | apply OLe.onSum | apply OLe.ite | intro _

def project.Tenant.body0.c (k : Nat) (l : List api.Event) (i : Int) (r758 : List (Int × Int)) (c_ : api.Config) (s1384 : project.Tenant.S0) : Option (project.Tenant.S0 ⊕ (List api.Event)) :=
 if s1384.t19 < (l.length : Int) then
  (
   need (InB s1384.t19 l.length) <|
   (
    letO (
     if (ix l s1384.t19).Kind = 1 then
      decide ((ix l s1384.t19).Kind = 1)
     else
      if (ix l s1384.t19).Kind = 2 then
       decide ((ix l s1384.t19).Kind = 2)
      else
       if (ix l s1384.t19).Kind = 3 then
        decide ((ix l s1384.t19).Kind = 3)
       else
        decide ((ix l s1384.t19).Kind = 4)) fun s1484 =>
    if s1484 = true then
     (project.Tenant_1.c k (ix l s1384.t19).Handle i r758).bind fun r1490 =>
     some (r1490, (ix l s1384.t19).Lefts)
    else
     letO (
      if (ix l s1384.t19).Kind = 5 then
       decide ((ix l s1384.t19).Kind = 5)
      else
       decide ((ix l s1384.t19).Kind = 6)) fun s1492 =>
     if s1492 = true then
      some (true, (ix l s1384.t19).Lefts)
     else
      if (ix l s1384.t19).Kind = 7 then
       if (ix l s1384.t19).Tenant = i then
        if 0 ≤ i then
         some (decide (i < (c_.Tenants.length : Int)), (ix l s1384.t19).Lefts)
        else
         some (false, (ix l s1384.t19).Lefts)
       else
        some (false, (ix l s1384.t19).Lefts)
      else
       if (ix l s1384.t19).Kind = 8 then
        (slices.Clone_api_Left.c k (ix l s1384.t19).Lefts).bind fun r1498 =>
        (slices.DeleteFunc_api_Left_v_project_Tenant_2.c k r1498 i c_).bind fun r1500 =>
        some (true, r1500)
       else
        some (false, (ix l s1384.t19).Lefts)).bind fun s1478 =>
   if s1478.1 = true then
    need ((s1384.out.length + [{ (ix l s1384.t19) with Lefts := s1478.2 }].length) * 104 ≤ 140737488355328) <|
    some (s1384.out ++ [{ (ix l s1384.t19) with Lefts := s1478.2 }])
   else
    some s1384.out).bind fun s1447 =>
  some (.inl ⟨s1447, IntKind.wrap .i64 (s1384.t19 + 1)⟩)
 else
  some (.inr s1384.out)

theorem project.Tenant.body0.c_le (k : Nat) (l : List api.Event) (i : Int) (r758 : List (Int × Int)) (c_ : api.Config) (s1384 : project.Tenant.S0) : OLe (project.Tenant.body0.c k l i r758 c_ s1384) (project.Tenant.body0 l i r758 c_ s1384) := by
 unfold project.Tenant.body0.c project.Tenant.body0
 repeat' with_reducible first | exact OLe.refl _ | apply project.Tenant_1.c_le | apply slices.Clone_api_Left.c_le | apply slices.DeleteFunc_api_Left_v_project_Tenant_2.c_le | apply OLe.bind | apply OLe.need | apply OLe.letO | apply OLe.onSum | apply OLe.ite | intro _

def project.Tenant.loop0.c (k : Nat) (l : List api.Event) (i : Int) (r758 : List (Int × Int)) (c_ : api.Config) (s1384 : project.Tenant.S0) : Option (List api.Event) := iterO (project.Tenant.body0.c k l i r758 c_) k s1384

theorem project.Tenant.loop0.c_le (k : Nat) (l : List api.Event) (i : Int) (r758 : List (Int × Int)) (c_ : api.Config) (s1384 : project.Tenant.S0) : OLe (project.Tenant.loop0.c k l i r758 c_ s1384) (project.Tenant.loop0 l i r758 c_ s1384) := by
 unfold project.Tenant.loop0.c project.Tenant.loop0
 exact OLe.iter (fun s => project.Tenant.body0.c_le k l i r758 c_ s) k _

def project.Tenant.c (k : Nat) (c_ : api.Config) (l : List api.Event) (i : Int) : Option (List api.Event) :=
 (project.labels.c k c_ l).bind fun r758 =>
 (project.Tenant.loop0.c k l i r758 c_ ⟨([] : List api.Event), 0⟩).bind fun s1134 =>
 some s1134

theorem project.Tenant.c_le (k : Nat) (c_ : api.Config) (l : List api.Event) (i : Int) : OLe (project.Tenant.c k c_ l i) (project.Tenant c_ l i) := by
 unfold project.Tenant.c project.Tenant
 repeat' with_reducible first | exact OLe.refl _ | apply project.labels.c_le | apply project.Tenant.loop0.c_le | apply OLe.bind | apply OLe.need | apply OLe.letO | apply OLe.onSum | apply OLe.ite | intro _

def slices.Equal_api_Left.body0.c (k : Nat) (s1_ : List api.Left) (s2_ : List api.Left) (s73 : slices.Equal_api_Left.S0) : Option (slices.Equal_api_Left.S0 ⊕ (Unit ⊕ Bool)) :=
 if s73.t13 < (s1_.length : Int) then
  need (InB s73.t13 s1_.length) <|
  need (InB s73.t13 s2_.length) <|
  if (ix s1_ s73.t13) = (ix s2_ s73.t13) then
   some (.inl ⟨IntKind.wrap .i64 (s73.t13 + 1)⟩)
  else
   some (.inr (.inr false))
 else
  some (.inr (.inl ()))

theorem slices.Equal_api_Left.body0.c_le (k : Nat) (s1_ : List api.Left) (s2_ : List api.Left) (s73 : slices.Equal_api_Left.S0) : OLe (slices.Equal_api_Left.body0.c k s1_ s2_ s73) (slices.Equal_api_Left.body0 s1_ s2_ s73) := by
 unfold slices.Equal_api_Left.body0.c slices.Equal_api_Left.body0
 repeat' with_reducible first | exact OLe.refl _ | apply OLe.bind | apply OLe.need | apply OLe.letO | apply OLe.onSum | apply OLe.ite | intro _

def slices.Equal_api_Left.loop0.c (k : Nat) (s1_ : List api.Left) (s2_ : List api.Left) (s73 : slices.Equal_api_Left.S0) : Option (Unit ⊕ Bool) := iterO (slices.Equal_api_Left.body0.c k s1_ s2_) k s73

theorem slices.Equal_api_Left.loop0.c_le (k : Nat) (s1_ : List api.Left) (s2_ : List api.Left) (s73 : slices.Equal_api_Left.S0) : OLe (slices.Equal_api_Left.loop0.c k s1_ s2_ s73) (slices.Equal_api_Left.loop0 s1_ s2_ s73) := by
 unfold slices.Equal_api_Left.loop0.c slices.Equal_api_Left.loop0
 exact OLe.iter (fun s => slices.Equal_api_Left.body0.c_le k s1_ s2_ s) k _

def slices.Equal_api_Left.c (k : Nat) (s1_ : List api.Left) (s2_ : List api.Left) : Option Bool :=
 if (s1_.length : Int) = (s2_.length : Int) then
  (slices.Equal_api_Left.loop0.c k s1_ s2_ ⟨0⟩).bind fun s81 => onSum s81 (fun s60 =>
   some true) fun s81x => some s81x
 else
  some false

theorem slices.Equal_api_Left.c_le (k : Nat) (s1_ : List api.Left) (s2_ : List api.Left) : OLe (slices.Equal_api_Left.c k s1_ s2_) (slices.Equal_api_Left s1_ s2_) := by
 unfold slices.Equal_api_Left.c slices.Equal_api_Left
 repeat' with_reducible first | exact OLe.refl _ | apply slices.Equal_api_Left.loop0.c_le | apply OLe.bind | apply OLe.need | apply OLe.letO | apply OLe.onSum | apply OLe.ite | intro _

def event.Same.c (k : Nat) (a : api.Event) (b : api.Event) : Option Bool :=
 (
  if a.Kind = b.Kind then
   if a.Handle = b.Handle then
    if a.S = b.S then
     if a.N = b.N then
      if a.Tenant = b.Tenant then
       if a.Fault = b.Fault then
        (slices.Equal_api_Left.c k a.Lefts b.Lefts).bind fun r38 =>
        some r38
       else
        some false
      else
       some false
     else
      some false
    else
     some false
   else
    some false
  else
   some false).bind fun s29 =>
 some s29

theorem event.Same.c_le (k : Nat) (a : api.Event) (b : api.Event) : OLe (event.Same.c k a b) (event.Same a b) := by
 unfold event.Same.c event.Same
 repeat' with_reducible first | exact OLe.refl _ | apply slices.Equal_api_Left.c_le | apply OLe.bind | apply OLe.need | apply OLe.letO | apply OLe.onSum | apply OLe.ite | intro _

def slices.EqualFunc_api_Event_event_Same.body0.c (k : Nat) (s1_ : List api.Event) (s2_ : List api.Event) (s106 : slices.EqualFunc_api_Event_event_Same.S0) : Option (slices.EqualFunc_api_Event_event_Same.S0 ⊕ (Unit ⊕ Bool)) :=
 if s106.t17 < (s1_.length : Int) then
  need (InB s106.t17 s1_.length) <|
  need (InB s106.t17 s2_.length) <|
  (event.Same.c k (ix s1_ s106.t17) (ix s2_ s106.t17)).bind fun r114 =>
  if (!r114) = true then
   some (.inr (.inr false))
  else
   some (.inl ⟨IntKind.wrap .i64 (s106.t17 + 1)⟩)
 else
  some (.inr (.inl ()))

theorem slices.EqualFunc_api_Event_event_Same.body0.c_le (k : Nat) (s1_ : List api.Event) (s2_ : List api.Event) (s106 : slices.EqualFunc_api_Event_event_Same.S0) : OLe (slices.EqualFunc_api_Event_event_Same.body0.c k s1_ s2_ s106) (slices.EqualFunc_api_Event_event_Same.body0 s1_ s2_ s106) := by
 unfold slices.EqualFunc_api_Event_event_Same.body0.c slices.EqualFunc_api_Event_event_Same.body0
 repeat' with_reducible first | exact OLe.refl _ | apply event.Same.c_le | apply OLe.bind | apply OLe.need | apply OLe.letO | apply OLe.onSum | apply OLe.ite | intro _

def slices.EqualFunc_api_Event_event_Same.loop0.c (k : Nat) (s1_ : List api.Event) (s2_ : List api.Event) (s106 : slices.EqualFunc_api_Event_event_Same.S0) : Option (Unit ⊕ Bool) := iterO (slices.EqualFunc_api_Event_event_Same.body0.c k s1_ s2_) k s106

theorem slices.EqualFunc_api_Event_event_Same.loop0.c_le (k : Nat) (s1_ : List api.Event) (s2_ : List api.Event) (s106 : slices.EqualFunc_api_Event_event_Same.S0) : OLe (slices.EqualFunc_api_Event_event_Same.loop0.c k s1_ s2_ s106) (slices.EqualFunc_api_Event_event_Same.loop0 s1_ s2_ s106) := by
 unfold slices.EqualFunc_api_Event_event_Same.loop0.c slices.EqualFunc_api_Event_event_Same.loop0
 exact OLe.iter (fun s => slices.EqualFunc_api_Event_event_Same.body0.c_le k s1_ s2_ s) k _

def slices.EqualFunc_api_Event_event_Same.c (k : Nat) (s1_ : List api.Event) (s2_ : List api.Event) : Option Bool :=
 if (s1_.length : Int) = (s2_.length : Int) then
  (slices.EqualFunc_api_Event_event_Same.loop0.c k s1_ s2_ ⟨0⟩).bind fun s117 => onSum s117 (fun s87 =>
   some true) fun s117x => some s117x
 else
  some false

theorem slices.EqualFunc_api_Event_event_Same.c_le (k : Nat) (s1_ : List api.Event) (s2_ : List api.Event) : OLe (slices.EqualFunc_api_Event_event_Same.c k s1_ s2_) (slices.EqualFunc_api_Event_event_Same s1_ s2_) := by
 unfold slices.EqualFunc_api_Event_event_Same.c slices.EqualFunc_api_Event_event_Same
 repeat' with_reducible first | exact OLe.refl _ | apply slices.EqualFunc_api_Event_event_Same.loop0.c_le | apply OLe.bind | apply OLe.need | apply OLe.letO | apply OLe.onSum | apply OLe.ite | intro _

def project.Same.c (k : Nat) (a : List api.Event) (b : List api.Event) : Option Bool :=
 (slices.EqualFunc_api_Event_event_Same.c k a b).bind fun r2 =>
 some r2

theorem project.Same.c_le (k : Nat) (a : List api.Event) (b : List api.Event) : OLe (project.Same.c k a b) (project.Same a b) := by
 unfold project.Same.c project.Same
 repeat' with_reducible first | exact OLe.refl _ | apply slices.EqualFunc_api_Event_event_Same.c_le | apply OLe.bind | apply OLe.need | apply OLe.letO | apply OLe.onSum | apply OLe.ite | intro _

def mewslaw49.alive.c (k : Nat)  : Option Bool :=
 (mewslaw46.Some.c k).bind fun r28 =>
 (
  (project.Of.c k r28 [({ Kind := 1, Handle := 7, S := ([] : List UInt8), N := 0, Tenant := 0, Fault := ({ Name := ([] : List UInt8), Kind := 0, Short := 0 } : api.Fault), Lefts := ([] : List api.Left) } : api.Event), ({ Kind := 1, Handle := 8, S := ([] : List UInt8), N := 0, Tenant := 0, Fault := ({ Name := ([] : List UInt8), Kind := 0, Short := 0 } : api.Fault), Lefts := ([] : List api.Left) } : api.Event), ({ Kind := 2, Handle := 7, S := [65, 85, 84, 72, 32, 115, 10], N := 0, Tenant := 0, Fault := ({ Name := ([] : List UInt8), Kind := 0, Short := 0 } : api.Fault), Lefts := ([] : List api.Left) } : api.Event), ({ Kind := 2, Handle := 8, S := [65, 85, 84, 72, 32, 116, 10], N := 0, Tenant := 0, Fault := ({ Name := ([] : List UInt8), Kind := 0, Short := 0 } : api.Fault), Lefts := ([] : List api.Left) } : api.Event), ({ Kind := 6, Handle := 0, S := ([] : List UInt8), N := 0, Tenant := 0, Fault := ({ Name := ([] : List UInt8), Kind := 0, Short := 0 } : api.Fault), Lefts := ([] : List api.Left) } : api.Event)] 8).bind fun r44 =>
  if r44 = 1 then
   (project.Labels.c k r28 [({ Kind := 1, Handle := 7, S := ([] : List UInt8), N := 0, Tenant := 0, Fault := ({ Name := ([] : List UInt8), Kind := 0, Short := 0 } : api.Fault), Lefts := ([] : List api.Left) } : api.Event), ({ Kind := 1, Handle := 8, S := ([] : List UInt8), N := 0, Tenant := 0, Fault := ({ Name := ([] : List UInt8), Kind := 0, Short := 0 } : api.Fault), Lefts := ([] : List api.Left) } : api.Event), ({ Kind := 2, Handle := 7, S := [65, 85, 84, 72, 32, 115, 10], N := 0, Tenant := 0, Fault := ({ Name := ([] : List UInt8), Kind := 0, Short := 0 } : api.Fault), Lefts := ([] : List api.Left) } : api.Event), ({ Kind := 2, Handle := 8, S := [65, 85, 84, 72, 32, 116, 10], N := 0, Tenant := 0, Fault := ({ Name := ([] : List UInt8), Kind := 0, Short := 0 } : api.Fault), Lefts := ([] : List api.Left) } : api.Event), ({ Kind := 6, Handle := 0, S := ([] : List UInt8), N := 0, Tenant := 0, Fault := ({ Name := ([] : List UInt8), Kind := 0, Short := 0 } : api.Fault), Lefts := ([] : List api.Left) } : api.Event)]).bind fun r46 =>
   if (r46.length : Int) = 2 then
    (project.Tenant.c k r28 [({ Kind := 1, Handle := 7, S := ([] : List UInt8), N := 0, Tenant := 0, Fault := ({ Name := ([] : List UInt8), Kind := 0, Short := 0 } : api.Fault), Lefts := ([] : List api.Left) } : api.Event), ({ Kind := 1, Handle := 8, S := ([] : List UInt8), N := 0, Tenant := 0, Fault := ({ Name := ([] : List UInt8), Kind := 0, Short := 0 } : api.Fault), Lefts := ([] : List api.Left) } : api.Event), ({ Kind := 2, Handle := 7, S := [65, 85, 84, 72, 32, 115, 10], N := 0, Tenant := 0, Fault := ({ Name := ([] : List UInt8), Kind := 0, Short := 0 } : api.Fault), Lefts := ([] : List api.Left) } : api.Event), ({ Kind := 2, Handle := 8, S := [65, 85, 84, 72, 32, 116, 10], N := 0, Tenant := 0, Fault := ({ Name := ([] : List UInt8), Kind := 0, Short := 0 } : api.Fault), Lefts := ([] : List api.Left) } : api.Event), ({ Kind := 6, Handle := 0, S := ([] : List UInt8), N := 0, Tenant := 0, Fault := ({ Name := ([] : List UInt8), Kind := 0, Short := 0 } : api.Fault), Lefts := ([] : List api.Left) } : api.Event)] 0).bind fun r49 =>
    need (InB 0 [({ Kind := 1, Handle := 7, S := ([] : List UInt8), N := 0, Tenant := 0, Fault := ({ Name := ([] : List UInt8), Kind := 0, Short := 0 } : api.Fault), Lefts := ([] : List api.Left) } : api.Event), ({ Kind := 1, Handle := 8, S := ([] : List UInt8), N := 0, Tenant := 0, Fault := ({ Name := ([] : List UInt8), Kind := 0, Short := 0 } : api.Fault), Lefts := ([] : List api.Left) } : api.Event), ({ Kind := 2, Handle := 7, S := [65, 85, 84, 72, 32, 115, 10], N := 0, Tenant := 0, Fault := ({ Name := ([] : List UInt8), Kind := 0, Short := 0 } : api.Fault), Lefts := ([] : List api.Left) } : api.Event), ({ Kind := 2, Handle := 8, S := [65, 85, 84, 72, 32, 116, 10], N := 0, Tenant := 0, Fault := ({ Name := ([] : List UInt8), Kind := 0, Short := 0 } : api.Fault), Lefts := ([] : List api.Left) } : api.Event), ({ Kind := 6, Handle := 0, S := ([] : List UInt8), N := 0, Tenant := 0, Fault := ({ Name := ([] : List UInt8), Kind := 0, Short := 0 } : api.Fault), Lefts := ([] : List api.Left) } : api.Event)].length) <|
    need (InB 2 [({ Kind := 1, Handle := 7, S := ([] : List UInt8), N := 0, Tenant := 0, Fault := ({ Name := ([] : List UInt8), Kind := 0, Short := 0 } : api.Fault), Lefts := ([] : List api.Left) } : api.Event), ({ Kind := 1, Handle := 8, S := ([] : List UInt8), N := 0, Tenant := 0, Fault := ({ Name := ([] : List UInt8), Kind := 0, Short := 0 } : api.Fault), Lefts := ([] : List api.Left) } : api.Event), ({ Kind := 2, Handle := 7, S := [65, 85, 84, 72, 32, 115, 10], N := 0, Tenant := 0, Fault := ({ Name := ([] : List UInt8), Kind := 0, Short := 0 } : api.Fault), Lefts := ([] : List api.Left) } : api.Event), ({ Kind := 2, Handle := 8, S := [65, 85, 84, 72, 32, 116, 10], N := 0, Tenant := 0, Fault := ({ Name := ([] : List UInt8), Kind := 0, Short := 0 } : api.Fault), Lefts := ([] : List api.Left) } : api.Event), ({ Kind := 6, Handle := 0, S := ([] : List UInt8), N := 0, Tenant := 0, Fault := ({ Name := ([] : List UInt8), Kind := 0, Short := 0 } : api.Fault), Lefts := ([] : List api.Left) } : api.Event)].length) <|
    need (InB 4 [({ Kind := 1, Handle := 7, S := ([] : List UInt8), N := 0, Tenant := 0, Fault := ({ Name := ([] : List UInt8), Kind := 0, Short := 0 } : api.Fault), Lefts := ([] : List api.Left) } : api.Event), ({ Kind := 1, Handle := 8, S := ([] : List UInt8), N := 0, Tenant := 0, Fault := ({ Name := ([] : List UInt8), Kind := 0, Short := 0 } : api.Fault), Lefts := ([] : List api.Left) } : api.Event), ({ Kind := 2, Handle := 7, S := [65, 85, 84, 72, 32, 115, 10], N := 0, Tenant := 0, Fault := ({ Name := ([] : List UInt8), Kind := 0, Short := 0 } : api.Fault), Lefts := ([] : List api.Left) } : api.Event), ({ Kind := 2, Handle := 8, S := [65, 85, 84, 72, 32, 116, 10], N := 0, Tenant := 0, Fault := ({ Name := ([] : List UInt8), Kind := 0, Short := 0 } : api.Fault), Lefts := ([] : List api.Left) } : api.Event), ({ Kind := 6, Handle := 0, S := ([] : List UInt8), N := 0, Tenant := 0, Fault := ({ Name := ([] : List UInt8), Kind := 0, Short := 0 } : api.Fault), Lefts := ([] : List api.Left) } : api.Event)].length) <|
    (project.Same.c k r49 [({ Kind := (ix [({ Kind := 1, Handle := 7, S := ([] : List UInt8), N := 0, Tenant := 0, Fault := ({ Name := ([] : List UInt8), Kind := 0, Short := 0 } : api.Fault), Lefts := ([] : List api.Left) } : api.Event), ({ Kind := 1, Handle := 8, S := ([] : List UInt8), N := 0, Tenant := 0, Fault := ({ Name := ([] : List UInt8), Kind := 0, Short := 0 } : api.Fault), Lefts := ([] : List api.Left) } : api.Event), ({ Kind := 2, Handle := 7, S := [65, 85, 84, 72, 32, 115, 10], N := 0, Tenant := 0, Fault := ({ Name := ([] : List UInt8), Kind := 0, Short := 0 } : api.Fault), Lefts := ([] : List api.Left) } : api.Event), ({ Kind := 2, Handle := 8, S := [65, 85, 84, 72, 32, 116, 10], N := 0, Tenant := 0, Fault := ({ Name := ([] : List UInt8), Kind := 0, Short := 0 } : api.Fault), Lefts := ([] : List api.Left) } : api.Event), ({ Kind := 6, Handle := 0, S := ([] : List UInt8), N := 0, Tenant := 0, Fault := ({ Name := ([] : List UInt8), Kind := 0, Short := 0 } : api.Fault), Lefts := ([] : List api.Left) } : api.Event)] 0).Kind, Handle := (ix [({ Kind := 1, Handle := 7, S := ([] : List UInt8), N := 0, Tenant := 0, Fault := ({ Name := ([] : List UInt8), Kind := 0, Short := 0 } : api.Fault), Lefts := ([] : List api.Left) } : api.Event), ({ Kind := 1, Handle := 8, S := ([] : List UInt8), N := 0, Tenant := 0, Fault := ({ Name := ([] : List UInt8), Kind := 0, Short := 0 } : api.Fault), Lefts := ([] : List api.Left) } : api.Event), ({ Kind := 2, Handle := 7, S := [65, 85, 84, 72, 32, 115, 10], N := 0, Tenant := 0, Fault := ({ Name := ([] : List UInt8), Kind := 0, Short := 0 } : api.Fault), Lefts := ([] : List api.Left) } : api.Event), ({ Kind := 2, Handle := 8, S := [65, 85, 84, 72, 32, 116, 10], N := 0, Tenant := 0, Fault := ({ Name := ([] : List UInt8), Kind := 0, Short := 0 } : api.Fault), Lefts := ([] : List api.Left) } : api.Event), ({ Kind := 6, Handle := 0, S := ([] : List UInt8), N := 0, Tenant := 0, Fault := ({ Name := ([] : List UInt8), Kind := 0, Short := 0 } : api.Fault), Lefts := ([] : List api.Left) } : api.Event)] 0).Handle, S := (ix [({ Kind := 1, Handle := 7, S := ([] : List UInt8), N := 0, Tenant := 0, Fault := ({ Name := ([] : List UInt8), Kind := 0, Short := 0 } : api.Fault), Lefts := ([] : List api.Left) } : api.Event), ({ Kind := 1, Handle := 8, S := ([] : List UInt8), N := 0, Tenant := 0, Fault := ({ Name := ([] : List UInt8), Kind := 0, Short := 0 } : api.Fault), Lefts := ([] : List api.Left) } : api.Event), ({ Kind := 2, Handle := 7, S := [65, 85, 84, 72, 32, 115, 10], N := 0, Tenant := 0, Fault := ({ Name := ([] : List UInt8), Kind := 0, Short := 0 } : api.Fault), Lefts := ([] : List api.Left) } : api.Event), ({ Kind := 2, Handle := 8, S := [65, 85, 84, 72, 32, 116, 10], N := 0, Tenant := 0, Fault := ({ Name := ([] : List UInt8), Kind := 0, Short := 0 } : api.Fault), Lefts := ([] : List api.Left) } : api.Event), ({ Kind := 6, Handle := 0, S := ([] : List UInt8), N := 0, Tenant := 0, Fault := ({ Name := ([] : List UInt8), Kind := 0, Short := 0 } : api.Fault), Lefts := ([] : List api.Left) } : api.Event)] 0).S, N := (ix [({ Kind := 1, Handle := 7, S := ([] : List UInt8), N := 0, Tenant := 0, Fault := ({ Name := ([] : List UInt8), Kind := 0, Short := 0 } : api.Fault), Lefts := ([] : List api.Left) } : api.Event), ({ Kind := 1, Handle := 8, S := ([] : List UInt8), N := 0, Tenant := 0, Fault := ({ Name := ([] : List UInt8), Kind := 0, Short := 0 } : api.Fault), Lefts := ([] : List api.Left) } : api.Event), ({ Kind := 2, Handle := 7, S := [65, 85, 84, 72, 32, 115, 10], N := 0, Tenant := 0, Fault := ({ Name := ([] : List UInt8), Kind := 0, Short := 0 } : api.Fault), Lefts := ([] : List api.Left) } : api.Event), ({ Kind := 2, Handle := 8, S := [65, 85, 84, 72, 32, 116, 10], N := 0, Tenant := 0, Fault := ({ Name := ([] : List UInt8), Kind := 0, Short := 0 } : api.Fault), Lefts := ([] : List api.Left) } : api.Event), ({ Kind := 6, Handle := 0, S := ([] : List UInt8), N := 0, Tenant := 0, Fault := ({ Name := ([] : List UInt8), Kind := 0, Short := 0 } : api.Fault), Lefts := ([] : List api.Left) } : api.Event)] 0).N, Tenant := (ix [({ Kind := 1, Handle := 7, S := ([] : List UInt8), N := 0, Tenant := 0, Fault := ({ Name := ([] : List UInt8), Kind := 0, Short := 0 } : api.Fault), Lefts := ([] : List api.Left) } : api.Event), ({ Kind := 1, Handle := 8, S := ([] : List UInt8), N := 0, Tenant := 0, Fault := ({ Name := ([] : List UInt8), Kind := 0, Short := 0 } : api.Fault), Lefts := ([] : List api.Left) } : api.Event), ({ Kind := 2, Handle := 7, S := [65, 85, 84, 72, 32, 115, 10], N := 0, Tenant := 0, Fault := ({ Name := ([] : List UInt8), Kind := 0, Short := 0 } : api.Fault), Lefts := ([] : List api.Left) } : api.Event), ({ Kind := 2, Handle := 8, S := [65, 85, 84, 72, 32, 116, 10], N := 0, Tenant := 0, Fault := ({ Name := ([] : List UInt8), Kind := 0, Short := 0 } : api.Fault), Lefts := ([] : List api.Left) } : api.Event), ({ Kind := 6, Handle := 0, S := ([] : List UInt8), N := 0, Tenant := 0, Fault := ({ Name := ([] : List UInt8), Kind := 0, Short := 0 } : api.Fault), Lefts := ([] : List api.Left) } : api.Event)] 0).Tenant, Fault := ({ Name := (ix [({ Kind := 1, Handle := 7, S := ([] : List UInt8), N := 0, Tenant := 0, Fault := ({ Name := ([] : List UInt8), Kind := 0, Short := 0 } : api.Fault), Lefts := ([] : List api.Left) } : api.Event), ({ Kind := 1, Handle := 8, S := ([] : List UInt8), N := 0, Tenant := 0, Fault := ({ Name := ([] : List UInt8), Kind := 0, Short := 0 } : api.Fault), Lefts := ([] : List api.Left) } : api.Event), ({ Kind := 2, Handle := 7, S := [65, 85, 84, 72, 32, 115, 10], N := 0, Tenant := 0, Fault := ({ Name := ([] : List UInt8), Kind := 0, Short := 0 } : api.Fault), Lefts := ([] : List api.Left) } : api.Event), ({ Kind := 2, Handle := 8, S := [65, 85, 84, 72, 32, 116, 10], N := 0, Tenant := 0, Fault := ({ Name := ([] : List UInt8), Kind := 0, Short := 0 } : api.Fault), Lefts := ([] : List api.Left) } : api.Event), ({ Kind := 6, Handle := 0, S := ([] : List UInt8), N := 0, Tenant := 0, Fault := ({ Name := ([] : List UInt8), Kind := 0, Short := 0 } : api.Fault), Lefts := ([] : List api.Left) } : api.Event)] 0).Fault.Name, Kind := (ix [({ Kind := 1, Handle := 7, S := ([] : List UInt8), N := 0, Tenant := 0, Fault := ({ Name := ([] : List UInt8), Kind := 0, Short := 0 } : api.Fault), Lefts := ([] : List api.Left) } : api.Event), ({ Kind := 1, Handle := 8, S := ([] : List UInt8), N := 0, Tenant := 0, Fault := ({ Name := ([] : List UInt8), Kind := 0, Short := 0 } : api.Fault), Lefts := ([] : List api.Left) } : api.Event), ({ Kind := 2, Handle := 7, S := [65, 85, 84, 72, 32, 115, 10], N := 0, Tenant := 0, Fault := ({ Name := ([] : List UInt8), Kind := 0, Short := 0 } : api.Fault), Lefts := ([] : List api.Left) } : api.Event), ({ Kind := 2, Handle := 8, S := [65, 85, 84, 72, 32, 116, 10], N := 0, Tenant := 0, Fault := ({ Name := ([] : List UInt8), Kind := 0, Short := 0 } : api.Fault), Lefts := ([] : List api.Left) } : api.Event), ({ Kind := 6, Handle := 0, S := ([] : List UInt8), N := 0, Tenant := 0, Fault := ({ Name := ([] : List UInt8), Kind := 0, Short := 0 } : api.Fault), Lefts := ([] : List api.Left) } : api.Event)] 0).Fault.Kind, Short := (ix [({ Kind := 1, Handle := 7, S := ([] : List UInt8), N := 0, Tenant := 0, Fault := ({ Name := ([] : List UInt8), Kind := 0, Short := 0 } : api.Fault), Lefts := ([] : List api.Left) } : api.Event), ({ Kind := 1, Handle := 8, S := ([] : List UInt8), N := 0, Tenant := 0, Fault := ({ Name := ([] : List UInt8), Kind := 0, Short := 0 } : api.Fault), Lefts := ([] : List api.Left) } : api.Event), ({ Kind := 2, Handle := 7, S := [65, 85, 84, 72, 32, 115, 10], N := 0, Tenant := 0, Fault := ({ Name := ([] : List UInt8), Kind := 0, Short := 0 } : api.Fault), Lefts := ([] : List api.Left) } : api.Event), ({ Kind := 2, Handle := 8, S := [65, 85, 84, 72, 32, 116, 10], N := 0, Tenant := 0, Fault := ({ Name := ([] : List UInt8), Kind := 0, Short := 0 } : api.Fault), Lefts := ([] : List api.Left) } : api.Event), ({ Kind := 6, Handle := 0, S := ([] : List UInt8), N := 0, Tenant := 0, Fault := ({ Name := ([] : List UInt8), Kind := 0, Short := 0 } : api.Fault), Lefts := ([] : List api.Left) } : api.Event)] 0).Fault.Short } : api.Fault), Lefts := (ix [({ Kind := 1, Handle := 7, S := ([] : List UInt8), N := 0, Tenant := 0, Fault := ({ Name := ([] : List UInt8), Kind := 0, Short := 0 } : api.Fault), Lefts := ([] : List api.Left) } : api.Event), ({ Kind := 1, Handle := 8, S := ([] : List UInt8), N := 0, Tenant := 0, Fault := ({ Name := ([] : List UInt8), Kind := 0, Short := 0 } : api.Fault), Lefts := ([] : List api.Left) } : api.Event), ({ Kind := 2, Handle := 7, S := [65, 85, 84, 72, 32, 115, 10], N := 0, Tenant := 0, Fault := ({ Name := ([] : List UInt8), Kind := 0, Short := 0 } : api.Fault), Lefts := ([] : List api.Left) } : api.Event), ({ Kind := 2, Handle := 8, S := [65, 85, 84, 72, 32, 116, 10], N := 0, Tenant := 0, Fault := ({ Name := ([] : List UInt8), Kind := 0, Short := 0 } : api.Fault), Lefts := ([] : List api.Left) } : api.Event), ({ Kind := 6, Handle := 0, S := ([] : List UInt8), N := 0, Tenant := 0, Fault := ({ Name := ([] : List UInt8), Kind := 0, Short := 0 } : api.Fault), Lefts := ([] : List api.Left) } : api.Event)] 0).Lefts } : api.Event), ({ Kind := (ix [({ Kind := 1, Handle := 7, S := ([] : List UInt8), N := 0, Tenant := 0, Fault := ({ Name := ([] : List UInt8), Kind := 0, Short := 0 } : api.Fault), Lefts := ([] : List api.Left) } : api.Event), ({ Kind := 1, Handle := 8, S := ([] : List UInt8), N := 0, Tenant := 0, Fault := ({ Name := ([] : List UInt8), Kind := 0, Short := 0 } : api.Fault), Lefts := ([] : List api.Left) } : api.Event), ({ Kind := 2, Handle := 7, S := [65, 85, 84, 72, 32, 115, 10], N := 0, Tenant := 0, Fault := ({ Name := ([] : List UInt8), Kind := 0, Short := 0 } : api.Fault), Lefts := ([] : List api.Left) } : api.Event), ({ Kind := 2, Handle := 8, S := [65, 85, 84, 72, 32, 116, 10], N := 0, Tenant := 0, Fault := ({ Name := ([] : List UInt8), Kind := 0, Short := 0 } : api.Fault), Lefts := ([] : List api.Left) } : api.Event), ({ Kind := 6, Handle := 0, S := ([] : List UInt8), N := 0, Tenant := 0, Fault := ({ Name := ([] : List UInt8), Kind := 0, Short := 0 } : api.Fault), Lefts := ([] : List api.Left) } : api.Event)] 2).Kind, Handle := (ix [({ Kind := 1, Handle := 7, S := ([] : List UInt8), N := 0, Tenant := 0, Fault := ({ Name := ([] : List UInt8), Kind := 0, Short := 0 } : api.Fault), Lefts := ([] : List api.Left) } : api.Event), ({ Kind := 1, Handle := 8, S := ([] : List UInt8), N := 0, Tenant := 0, Fault := ({ Name := ([] : List UInt8), Kind := 0, Short := 0 } : api.Fault), Lefts := ([] : List api.Left) } : api.Event), ({ Kind := 2, Handle := 7, S := [65, 85, 84, 72, 32, 115, 10], N := 0, Tenant := 0, Fault := ({ Name := ([] : List UInt8), Kind := 0, Short := 0 } : api.Fault), Lefts := ([] : List api.Left) } : api.Event), ({ Kind := 2, Handle := 8, S := [65, 85, 84, 72, 32, 116, 10], N := 0, Tenant := 0, Fault := ({ Name := ([] : List UInt8), Kind := 0, Short := 0 } : api.Fault), Lefts := ([] : List api.Left) } : api.Event), ({ Kind := 6, Handle := 0, S := ([] : List UInt8), N := 0, Tenant := 0, Fault := ({ Name := ([] : List UInt8), Kind := 0, Short := 0 } : api.Fault), Lefts := ([] : List api.Left) } : api.Event)] 2).Handle, S := (ix [({ Kind := 1, Handle := 7, S := ([] : List UInt8), N := 0, Tenant := 0, Fault := ({ Name := ([] : List UInt8), Kind := 0, Short := 0 } : api.Fault), Lefts := ([] : List api.Left) } : api.Event), ({ Kind := 1, Handle := 8, S := ([] : List UInt8), N := 0, Tenant := 0, Fault := ({ Name := ([] : List UInt8), Kind := 0, Short := 0 } : api.Fault), Lefts := ([] : List api.Left) } : api.Event), ({ Kind := 2, Handle := 7, S := [65, 85, 84, 72, 32, 115, 10], N := 0, Tenant := 0, Fault := ({ Name := ([] : List UInt8), Kind := 0, Short := 0 } : api.Fault), Lefts := ([] : List api.Left) } : api.Event), ({ Kind := 2, Handle := 8, S := [65, 85, 84, 72, 32, 116, 10], N := 0, Tenant := 0, Fault := ({ Name := ([] : List UInt8), Kind := 0, Short := 0 } : api.Fault), Lefts := ([] : List api.Left) } : api.Event), ({ Kind := 6, Handle := 0, S := ([] : List UInt8), N := 0, Tenant := 0, Fault := ({ Name := ([] : List UInt8), Kind := 0, Short := 0 } : api.Fault), Lefts := ([] : List api.Left) } : api.Event)] 2).S, N := (ix [({ Kind := 1, Handle := 7, S := ([] : List UInt8), N := 0, Tenant := 0, Fault := ({ Name := ([] : List UInt8), Kind := 0, Short := 0 } : api.Fault), Lefts := ([] : List api.Left) } : api.Event), ({ Kind := 1, Handle := 8, S := ([] : List UInt8), N := 0, Tenant := 0, Fault := ({ Name := ([] : List UInt8), Kind := 0, Short := 0 } : api.Fault), Lefts := ([] : List api.Left) } : api.Event), ({ Kind := 2, Handle := 7, S := [65, 85, 84, 72, 32, 115, 10], N := 0, Tenant := 0, Fault := ({ Name := ([] : List UInt8), Kind := 0, Short := 0 } : api.Fault), Lefts := ([] : List api.Left) } : api.Event), ({ Kind := 2, Handle := 8, S := [65, 85, 84, 72, 32, 116, 10], N := 0, Tenant := 0, Fault := ({ Name := ([] : List UInt8), Kind := 0, Short := 0 } : api.Fault), Lefts := ([] : List api.Left) } : api.Event), ({ Kind := 6, Handle := 0, S := ([] : List UInt8), N := 0, Tenant := 0, Fault := ({ Name := ([] : List UInt8), Kind := 0, Short := 0 } : api.Fault), Lefts := ([] : List api.Left) } : api.Event)] 2).N, Tenant := (ix [({ Kind := 1, Handle := 7, S := ([] : List UInt8), N := 0, Tenant := 0, Fault := ({ Name := ([] : List UInt8), Kind := 0, Short := 0 } : api.Fault), Lefts := ([] : List api.Left) } : api.Event), ({ Kind := 1, Handle := 8, S := ([] : List UInt8), N := 0, Tenant := 0, Fault := ({ Name := ([] : List UInt8), Kind := 0, Short := 0 } : api.Fault), Lefts := ([] : List api.Left) } : api.Event), ({ Kind := 2, Handle := 7, S := [65, 85, 84, 72, 32, 115, 10], N := 0, Tenant := 0, Fault := ({ Name := ([] : List UInt8), Kind := 0, Short := 0 } : api.Fault), Lefts := ([] : List api.Left) } : api.Event), ({ Kind := 2, Handle := 8, S := [65, 85, 84, 72, 32, 116, 10], N := 0, Tenant := 0, Fault := ({ Name := ([] : List UInt8), Kind := 0, Short := 0 } : api.Fault), Lefts := ([] : List api.Left) } : api.Event), ({ Kind := 6, Handle := 0, S := ([] : List UInt8), N := 0, Tenant := 0, Fault := ({ Name := ([] : List UInt8), Kind := 0, Short := 0 } : api.Fault), Lefts := ([] : List api.Left) } : api.Event)] 2).Tenant, Fault := ({ Name := (ix [({ Kind := 1, Handle := 7, S := ([] : List UInt8), N := 0, Tenant := 0, Fault := ({ Name := ([] : List UInt8), Kind := 0, Short := 0 } : api.Fault), Lefts := ([] : List api.Left) } : api.Event), ({ Kind := 1, Handle := 8, S := ([] : List UInt8), N := 0, Tenant := 0, Fault := ({ Name := ([] : List UInt8), Kind := 0, Short := 0 } : api.Fault), Lefts := ([] : List api.Left) } : api.Event), ({ Kind := 2, Handle := 7, S := [65, 85, 84, 72, 32, 115, 10], N := 0, Tenant := 0, Fault := ({ Name := ([] : List UInt8), Kind := 0, Short := 0 } : api.Fault), Lefts := ([] : List api.Left) } : api.Event), ({ Kind := 2, Handle := 8, S := [65, 85, 84, 72, 32, 116, 10], N := 0, Tenant := 0, Fault := ({ Name := ([] : List UInt8), Kind := 0, Short := 0 } : api.Fault), Lefts := ([] : List api.Left) } : api.Event), ({ Kind := 6, Handle := 0, S := ([] : List UInt8), N := 0, Tenant := 0, Fault := ({ Name := ([] : List UInt8), Kind := 0, Short := 0 } : api.Fault), Lefts := ([] : List api.Left) } : api.Event)] 2).Fault.Name, Kind := (ix [({ Kind := 1, Handle := 7, S := ([] : List UInt8), N := 0, Tenant := 0, Fault := ({ Name := ([] : List UInt8), Kind := 0, Short := 0 } : api.Fault), Lefts := ([] : List api.Left) } : api.Event), ({ Kind := 1, Handle := 8, S := ([] : List UInt8), N := 0, Tenant := 0, Fault := ({ Name := ([] : List UInt8), Kind := 0, Short := 0 } : api.Fault), Lefts := ([] : List api.Left) } : api.Event), ({ Kind := 2, Handle := 7, S := [65, 85, 84, 72, 32, 115, 10], N := 0, Tenant := 0, Fault := ({ Name := ([] : List UInt8), Kind := 0, Short := 0 } : api.Fault), Lefts := ([] : List api.Left) } : api.Event), ({ Kind := 2, Handle := 8, S := [65, 85, 84, 72, 32, 116, 10], N := 0, Tenant := 0, Fault := ({ Name := ([] : List UInt8), Kind := 0, Short := 0 } : api.Fault), Lefts := ([] : List api.Left) } : api.Event), ({ Kind := 6, Handle := 0, S := ([] : List UInt8), N := 0, Tenant := 0, Fault := ({ Name := ([] : List UInt8), Kind := 0, Short := 0 } : api.Fault), Lefts := ([] : List api.Left) } : api.Event)] 2).Fault.Kind, Short := (ix [({ Kind := 1, Handle := 7, S := ([] : List UInt8), N := 0, Tenant := 0, Fault := ({ Name := ([] : List UInt8), Kind := 0, Short := 0 } : api.Fault), Lefts := ([] : List api.Left) } : api.Event), ({ Kind := 1, Handle := 8, S := ([] : List UInt8), N := 0, Tenant := 0, Fault := ({ Name := ([] : List UInt8), Kind := 0, Short := 0 } : api.Fault), Lefts := ([] : List api.Left) } : api.Event), ({ Kind := 2, Handle := 7, S := [65, 85, 84, 72, 32, 115, 10], N := 0, Tenant := 0, Fault := ({ Name := ([] : List UInt8), Kind := 0, Short := 0 } : api.Fault), Lefts := ([] : List api.Left) } : api.Event), ({ Kind := 2, Handle := 8, S := [65, 85, 84, 72, 32, 116, 10], N := 0, Tenant := 0, Fault := ({ Name := ([] : List UInt8), Kind := 0, Short := 0 } : api.Fault), Lefts := ([] : List api.Left) } : api.Event), ({ Kind := 6, Handle := 0, S := ([] : List UInt8), N := 0, Tenant := 0, Fault := ({ Name := ([] : List UInt8), Kind := 0, Short := 0 } : api.Fault), Lefts := ([] : List api.Left) } : api.Event)] 2).Fault.Short } : api.Fault), Lefts := (ix [({ Kind := 1, Handle := 7, S := ([] : List UInt8), N := 0, Tenant := 0, Fault := ({ Name := ([] : List UInt8), Kind := 0, Short := 0 } : api.Fault), Lefts := ([] : List api.Left) } : api.Event), ({ Kind := 1, Handle := 8, S := ([] : List UInt8), N := 0, Tenant := 0, Fault := ({ Name := ([] : List UInt8), Kind := 0, Short := 0 } : api.Fault), Lefts := ([] : List api.Left) } : api.Event), ({ Kind := 2, Handle := 7, S := [65, 85, 84, 72, 32, 115, 10], N := 0, Tenant := 0, Fault := ({ Name := ([] : List UInt8), Kind := 0, Short := 0 } : api.Fault), Lefts := ([] : List api.Left) } : api.Event), ({ Kind := 2, Handle := 8, S := [65, 85, 84, 72, 32, 116, 10], N := 0, Tenant := 0, Fault := ({ Name := ([] : List UInt8), Kind := 0, Short := 0 } : api.Fault), Lefts := ([] : List api.Left) } : api.Event), ({ Kind := 6, Handle := 0, S := ([] : List UInt8), N := 0, Tenant := 0, Fault := ({ Name := ([] : List UInt8), Kind := 0, Short := 0 } : api.Fault), Lefts := ([] : List api.Left) } : api.Event)] 2).Lefts } : api.Event), ({ Kind := (ix [({ Kind := 1, Handle := 7, S := ([] : List UInt8), N := 0, Tenant := 0, Fault := ({ Name := ([] : List UInt8), Kind := 0, Short := 0 } : api.Fault), Lefts := ([] : List api.Left) } : api.Event), ({ Kind := 1, Handle := 8, S := ([] : List UInt8), N := 0, Tenant := 0, Fault := ({ Name := ([] : List UInt8), Kind := 0, Short := 0 } : api.Fault), Lefts := ([] : List api.Left) } : api.Event), ({ Kind := 2, Handle := 7, S := [65, 85, 84, 72, 32, 115, 10], N := 0, Tenant := 0, Fault := ({ Name := ([] : List UInt8), Kind := 0, Short := 0 } : api.Fault), Lefts := ([] : List api.Left) } : api.Event), ({ Kind := 2, Handle := 8, S := [65, 85, 84, 72, 32, 116, 10], N := 0, Tenant := 0, Fault := ({ Name := ([] : List UInt8), Kind := 0, Short := 0 } : api.Fault), Lefts := ([] : List api.Left) } : api.Event), ({ Kind := 6, Handle := 0, S := ([] : List UInt8), N := 0, Tenant := 0, Fault := ({ Name := ([] : List UInt8), Kind := 0, Short := 0 } : api.Fault), Lefts := ([] : List api.Left) } : api.Event)] 4).Kind, Handle := (ix [({ Kind := 1, Handle := 7, S := ([] : List UInt8), N := 0, Tenant := 0, Fault := ({ Name := ([] : List UInt8), Kind := 0, Short := 0 } : api.Fault), Lefts := ([] : List api.Left) } : api.Event), ({ Kind := 1, Handle := 8, S := ([] : List UInt8), N := 0, Tenant := 0, Fault := ({ Name := ([] : List UInt8), Kind := 0, Short := 0 } : api.Fault), Lefts := ([] : List api.Left) } : api.Event), ({ Kind := 2, Handle := 7, S := [65, 85, 84, 72, 32, 115, 10], N := 0, Tenant := 0, Fault := ({ Name := ([] : List UInt8), Kind := 0, Short := 0 } : api.Fault), Lefts := ([] : List api.Left) } : api.Event), ({ Kind := 2, Handle := 8, S := [65, 85, 84, 72, 32, 116, 10], N := 0, Tenant := 0, Fault := ({ Name := ([] : List UInt8), Kind := 0, Short := 0 } : api.Fault), Lefts := ([] : List api.Left) } : api.Event), ({ Kind := 6, Handle := 0, S := ([] : List UInt8), N := 0, Tenant := 0, Fault := ({ Name := ([] : List UInt8), Kind := 0, Short := 0 } : api.Fault), Lefts := ([] : List api.Left) } : api.Event)] 4).Handle, S := (ix [({ Kind := 1, Handle := 7, S := ([] : List UInt8), N := 0, Tenant := 0, Fault := ({ Name := ([] : List UInt8), Kind := 0, Short := 0 } : api.Fault), Lefts := ([] : List api.Left) } : api.Event), ({ Kind := 1, Handle := 8, S := ([] : List UInt8), N := 0, Tenant := 0, Fault := ({ Name := ([] : List UInt8), Kind := 0, Short := 0 } : api.Fault), Lefts := ([] : List api.Left) } : api.Event), ({ Kind := 2, Handle := 7, S := [65, 85, 84, 72, 32, 115, 10], N := 0, Tenant := 0, Fault := ({ Name := ([] : List UInt8), Kind := 0, Short := 0 } : api.Fault), Lefts := ([] : List api.Left) } : api.Event), ({ Kind := 2, Handle := 8, S := [65, 85, 84, 72, 32, 116, 10], N := 0, Tenant := 0, Fault := ({ Name := ([] : List UInt8), Kind := 0, Short := 0 } : api.Fault), Lefts := ([] : List api.Left) } : api.Event), ({ Kind := 6, Handle := 0, S := ([] : List UInt8), N := 0, Tenant := 0, Fault := ({ Name := ([] : List UInt8), Kind := 0, Short := 0 } : api.Fault), Lefts := ([] : List api.Left) } : api.Event)] 4).S, N := (ix [({ Kind := 1, Handle := 7, S := ([] : List UInt8), N := 0, Tenant := 0, Fault := ({ Name := ([] : List UInt8), Kind := 0, Short := 0 } : api.Fault), Lefts := ([] : List api.Left) } : api.Event), ({ Kind := 1, Handle := 8, S := ([] : List UInt8), N := 0, Tenant := 0, Fault := ({ Name := ([] : List UInt8), Kind := 0, Short := 0 } : api.Fault), Lefts := ([] : List api.Left) } : api.Event), ({ Kind := 2, Handle := 7, S := [65, 85, 84, 72, 32, 115, 10], N := 0, Tenant := 0, Fault := ({ Name := ([] : List UInt8), Kind := 0, Short := 0 } : api.Fault), Lefts := ([] : List api.Left) } : api.Event), ({ Kind := 2, Handle := 8, S := [65, 85, 84, 72, 32, 116, 10], N := 0, Tenant := 0, Fault := ({ Name := ([] : List UInt8), Kind := 0, Short := 0 } : api.Fault), Lefts := ([] : List api.Left) } : api.Event), ({ Kind := 6, Handle := 0, S := ([] : List UInt8), N := 0, Tenant := 0, Fault := ({ Name := ([] : List UInt8), Kind := 0, Short := 0 } : api.Fault), Lefts := ([] : List api.Left) } : api.Event)] 4).N, Tenant := (ix [({ Kind := 1, Handle := 7, S := ([] : List UInt8), N := 0, Tenant := 0, Fault := ({ Name := ([] : List UInt8), Kind := 0, Short := 0 } : api.Fault), Lefts := ([] : List api.Left) } : api.Event), ({ Kind := 1, Handle := 8, S := ([] : List UInt8), N := 0, Tenant := 0, Fault := ({ Name := ([] : List UInt8), Kind := 0, Short := 0 } : api.Fault), Lefts := ([] : List api.Left) } : api.Event), ({ Kind := 2, Handle := 7, S := [65, 85, 84, 72, 32, 115, 10], N := 0, Tenant := 0, Fault := ({ Name := ([] : List UInt8), Kind := 0, Short := 0 } : api.Fault), Lefts := ([] : List api.Left) } : api.Event), ({ Kind := 2, Handle := 8, S := [65, 85, 84, 72, 32, 116, 10], N := 0, Tenant := 0, Fault := ({ Name := ([] : List UInt8), Kind := 0, Short := 0 } : api.Fault), Lefts := ([] : List api.Left) } : api.Event), ({ Kind := 6, Handle := 0, S := ([] : List UInt8), N := 0, Tenant := 0, Fault := ({ Name := ([] : List UInt8), Kind := 0, Short := 0 } : api.Fault), Lefts := ([] : List api.Left) } : api.Event)] 4).Tenant, Fault := ({ Name := (ix [({ Kind := 1, Handle := 7, S := ([] : List UInt8), N := 0, Tenant := 0, Fault := ({ Name := ([] : List UInt8), Kind := 0, Short := 0 } : api.Fault), Lefts := ([] : List api.Left) } : api.Event), ({ Kind := 1, Handle := 8, S := ([] : List UInt8), N := 0, Tenant := 0, Fault := ({ Name := ([] : List UInt8), Kind := 0, Short := 0 } : api.Fault), Lefts := ([] : List api.Left) } : api.Event), ({ Kind := 2, Handle := 7, S := [65, 85, 84, 72, 32, 115, 10], N := 0, Tenant := 0, Fault := ({ Name := ([] : List UInt8), Kind := 0, Short := 0 } : api.Fault), Lefts := ([] : List api.Left) } : api.Event), ({ Kind := 2, Handle := 8, S := [65, 85, 84, 72, 32, 116, 10], N := 0, Tenant := 0, Fault := ({ Name := ([] : List UInt8), Kind := 0, Short := 0 } : api.Fault), Lefts := ([] : List api.Left) } : api.Event), ({ Kind := 6, Handle := 0, S := ([] : List UInt8), N := 0, Tenant := 0, Fault := ({ Name := ([] : List UInt8), Kind := 0, Short := 0 } : api.Fault), Lefts := ([] : List api.Left) } : api.Event)] 4).Fault.Name, Kind := (ix [({ Kind := 1, Handle := 7, S := ([] : List UInt8), N := 0, Tenant := 0, Fault := ({ Name := ([] : List UInt8), Kind := 0, Short := 0 } : api.Fault), Lefts := ([] : List api.Left) } : api.Event), ({ Kind := 1, Handle := 8, S := ([] : List UInt8), N := 0, Tenant := 0, Fault := ({ Name := ([] : List UInt8), Kind := 0, Short := 0 } : api.Fault), Lefts := ([] : List api.Left) } : api.Event), ({ Kind := 2, Handle := 7, S := [65, 85, 84, 72, 32, 115, 10], N := 0, Tenant := 0, Fault := ({ Name := ([] : List UInt8), Kind := 0, Short := 0 } : api.Fault), Lefts := ([] : List api.Left) } : api.Event), ({ Kind := 2, Handle := 8, S := [65, 85, 84, 72, 32, 116, 10], N := 0, Tenant := 0, Fault := ({ Name := ([] : List UInt8), Kind := 0, Short := 0 } : api.Fault), Lefts := ([] : List api.Left) } : api.Event), ({ Kind := 6, Handle := 0, S := ([] : List UInt8), N := 0, Tenant := 0, Fault := ({ Name := ([] : List UInt8), Kind := 0, Short := 0 } : api.Fault), Lefts := ([] : List api.Left) } : api.Event)] 4).Fault.Kind, Short := (ix [({ Kind := 1, Handle := 7, S := ([] : List UInt8), N := 0, Tenant := 0, Fault := ({ Name := ([] : List UInt8), Kind := 0, Short := 0 } : api.Fault), Lefts := ([] : List api.Left) } : api.Event), ({ Kind := 1, Handle := 8, S := ([] : List UInt8), N := 0, Tenant := 0, Fault := ({ Name := ([] : List UInt8), Kind := 0, Short := 0 } : api.Fault), Lefts := ([] : List api.Left) } : api.Event), ({ Kind := 2, Handle := 7, S := [65, 85, 84, 72, 32, 115, 10], N := 0, Tenant := 0, Fault := ({ Name := ([] : List UInt8), Kind := 0, Short := 0 } : api.Fault), Lefts := ([] : List api.Left) } : api.Event), ({ Kind := 2, Handle := 8, S := [65, 85, 84, 72, 32, 116, 10], N := 0, Tenant := 0, Fault := ({ Name := ([] : List UInt8), Kind := 0, Short := 0 } : api.Fault), Lefts := ([] : List api.Left) } : api.Event), ({ Kind := 6, Handle := 0, S := ([] : List UInt8), N := 0, Tenant := 0, Fault := ({ Name := ([] : List UInt8), Kind := 0, Short := 0 } : api.Fault), Lefts := ([] : List api.Left) } : api.Event)] 4).Fault.Short } : api.Fault), Lefts := (ix [({ Kind := 1, Handle := 7, S := ([] : List UInt8), N := 0, Tenant := 0, Fault := ({ Name := ([] : List UInt8), Kind := 0, Short := 0 } : api.Fault), Lefts := ([] : List api.Left) } : api.Event), ({ Kind := 1, Handle := 8, S := ([] : List UInt8), N := 0, Tenant := 0, Fault := ({ Name := ([] : List UInt8), Kind := 0, Short := 0 } : api.Fault), Lefts := ([] : List api.Left) } : api.Event), ({ Kind := 2, Handle := 7, S := [65, 85, 84, 72, 32, 115, 10], N := 0, Tenant := 0, Fault := ({ Name := ([] : List UInt8), Kind := 0, Short := 0 } : api.Fault), Lefts := ([] : List api.Left) } : api.Event), ({ Kind := 2, Handle := 8, S := [65, 85, 84, 72, 32, 116, 10], N := 0, Tenant := 0, Fault := ({ Name := ([] : List UInt8), Kind := 0, Short := 0 } : api.Fault), Lefts := ([] : List api.Left) } : api.Event), ({ Kind := 6, Handle := 0, S := ([] : List UInt8), N := 0, Tenant := 0, Fault := ({ Name := ([] : List UInt8), Kind := 0, Short := 0 } : api.Fault), Lefts := ([] : List api.Left) } : api.Event)] 4).Lefts } : api.Event)]).bind fun r54 =>
    some r54
   else
    some false
  else
   some false).bind fun s41 =>
 some s41

theorem mewslaw49.alive.c_le (k : Nat)  : OLe (mewslaw49.alive.c k ) (mewslaw49.alive ) := by
 unfold mewslaw49.alive.c mewslaw49.alive
 repeat' with_reducible first | exact OLe.refl _ | apply mewslaw46.Some.c_le | apply project.Of.c_le | apply project.Labels.c_le | apply project.Tenant.c_le | apply project.Same.c_le | apply OLe.bind | apply OLe.need | apply OLe.letO | apply OLe.onSum | apply OLe.ite | intro _

end Go.Pu
