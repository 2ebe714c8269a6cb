/- Printed by lift.py: the same functions, with rounds that are counted. -/
import Derived.Test.YtdgbjndkccjijaaUBP
set_option maxRecDepth 100000
set_option maxHeartbeats 0
namespace Go.Pu
open Go.Lift

def unit.may_1_1.c (k : Nat) (s_ : List UInt8) : Option Bool :=
 some (decide (1048576 < (s_.length : Int)))

theorem unit.may_1_1.c_le (k : Nat) (s_ : List UInt8) : OLe (unit.may_1_1.c k s_) (unit.may_1_1 s_) := by
 unfold unit.may_1_1.c unit.may_1_1
 repeat' with_reducible first | exact OLe.refl _ | apply OLe.bind | apply OLe.need | apply OLe.letO | apply OLe.onSum | apply OLe.ite | intro _

def slices.IndexFunc_string_unit_may_1_1.body0.c (k : Nat) (s_ : List (List UInt8)) (s72 : slices.IndexFunc_string_unit_may_1_1.S0) : Option (slices.IndexFunc_string_unit_may_1_1.S0 ⊕ (Unit ⊕ Int)) :=
 if s72.t8 < (s_.length : Int) then
  need (InB s72.t8 s_.length) <|
  (unit.may_1_1.c k (ix s_ s72.t8)).bind fun r77 =>
  if r77 = true then
   some (.inr (.inr s72.t8))
  else
   some (.inl ⟨IntKind.wrap .i64 (s72.t8 + 1)⟩)
 else
  some (.inr (.inl ()))

theorem slices.IndexFunc_string_unit_may_1_1.body0.c_le (k : Nat) (s_ : List (List UInt8)) (s72 : slices.IndexFunc_string_unit_may_1_1.S0) : OLe (slices.IndexFunc_string_unit_may_1_1.body0.c k s_ s72) (slices.IndexFunc_string_unit_may_1_1.body0 s_ s72) := by
 unfold slices.IndexFunc_string_unit_may_1_1.body0.c slices.IndexFunc_string_unit_may_1_1.body0
 repeat' with_reducible first | exact OLe.refl _ | apply unit.may_1_1.c_le | apply OLe.bind | apply OLe.need | apply OLe.letO | apply OLe.onSum | apply OLe.ite | intro _

def slices.IndexFunc_string_unit_may_1_1.loop0.c (k : Nat) (s_ : List (List UInt8)) (s72 : slices.IndexFunc_string_unit_may_1_1.S0) : Option (Unit ⊕ Int) := iterO (slices.IndexFunc_string_unit_may_1_1.body0.c k s_) k s72

theorem slices.IndexFunc_string_unit_may_1_1.loop0.c_le (k : Nat) (s_ : List (List UInt8)) (s72 : slices.IndexFunc_string_unit_may_1_1.S0) : OLe (slices.IndexFunc_string_unit_may_1_1.loop0.c k s_ s72) (slices.IndexFunc_string_unit_may_1_1.loop0 s_ s72) := by
 unfold slices.IndexFunc_string_unit_may_1_1.loop0.c slices.IndexFunc_string_unit_may_1_1.loop0
 exact OLe.iter (fun s => slices.IndexFunc_string_unit_may_1_1.body0.c_le k s_ s) k _

def slices.IndexFunc_string_unit_may_1_1.c (k : Nat) (s_ : List (List UInt8)) : Option Int :=
 (slices.IndexFunc_string_unit_may_1_1.loop0.c k s_ ⟨0⟩).bind fun s80 => onSum s80 (fun s59 =>
  some (-1)) fun s80x => some s80x

theorem slices.IndexFunc_string_unit_may_1_1.c_le (k : Nat) (s_ : List (List UInt8)) : OLe (slices.IndexFunc_string_unit_may_1_1.c k s_) (slices.IndexFunc_string_unit_may_1_1 s_) := by
 unfold slices.IndexFunc_string_unit_may_1_1.c slices.IndexFunc_string_unit_may_1_1
 repeat' with_reducible first | exact OLe.refl _ | apply slices.IndexFunc_string_unit_may_1_1.loop0.c_le | apply OLe.bind | apply OLe.need | apply OLe.letO | apply OLe.onSum | apply OLe.ite | intro _

def slices.ContainsFunc_string_unit_may_1_1.c (k : Nat) (s_ : List (List UInt8)) : Option Bool :=
 (slices.IndexFunc_string_unit_may_1_1.c k s_).bind fun r2 =>
 some (decide (0 ≤ r2))

theorem slices.ContainsFunc_string_unit_may_1_1.c_le (k : Nat) (s_ : List (List UInt8)) : OLe (slices.ContainsFunc_string_unit_may_1_1.c k s_) (slices.ContainsFunc_string_unit_may_1_1 s_) := by
 unfold slices.ContainsFunc_string_unit_may_1_1.c slices.ContainsFunc_string_unit_may_1_1
 repeat' with_reducible first | exact OLe.refl _ | apply slices.IndexFunc_string_unit_may_1_1.c_le | apply OLe.bind | apply OLe.need | apply OLe.letO | apply OLe.onSum | apply OLe.ite | intro _

def unit.may_1.c (k : Nat) (c_ : List (List UInt8)) : Option Bool :=
 (
  if (c_.length : Int) = 0 then
   some true
  else
   if 65536 < (c_.length : Int) then
    some true
   else
    (slices.ContainsFunc_string_unit_may_1_1.c k c_).bind fun r18 =>
    some r18).bind fun s13 =>
 some s13

theorem unit.may_1.c_le (k : Nat) (c_ : List (List UInt8)) : OLe (unit.may_1.c k c_) (unit.may_1 c_) := by
 unfold unit.may_1.c unit.may_1
 repeat' with_reducible first | exact OLe.refl _ | apply slices.ContainsFunc_string_unit_may_1_1.c_le | apply OLe.bind | apply OLe.need | apply OLe.letO | apply OLe.onSum | apply OLe.ite | intro _

def slices.IndexFunc_strings_unit_may_1.body0.c (k : Nat) (s_ : List (List (List UInt8))) (s72 : slices.IndexFunc_strings_unit_may_1.S0) : Option (slices.IndexFunc_strings_unit_may_1.S0 ⊕ (Unit ⊕ Int)) :=
 if s72.t8 < (s_.length : Int) then
  need (InB s72.t8 s_.length) <|
  (unit.may_1.c k (ix s_ s72.t8)).bind fun r77 =>
  if r77 = true then
   some (.inr (.inr s72.t8))
  else
   some (.inl ⟨IntKind.wrap .i64 (s72.t8 + 1)⟩)
 else
  some (.inr (.inl ()))

theorem slices.IndexFunc_strings_unit_may_1.body0.c_le (k : Nat) (s_ : List (List (List UInt8))) (s72 : slices.IndexFunc_strings_unit_may_1.S0) : OLe (slices.IndexFunc_strings_unit_may_1.body0.c k s_ s72) (slices.IndexFunc_strings_unit_may_1.body0 s_ s72) := by
 unfold slices.IndexFunc_strings_unit_may_1.body0.c slices.IndexFunc_strings_unit_may_1.body0
 repeat' with_reducible first | exact OLe.refl _ | apply unit.may_1.c_le | apply OLe.bind | apply OLe.need | apply OLe.letO | apply OLe.onSum | apply OLe.ite | intro _

def slices.IndexFunc_strings_unit_may_1.loop0.c (k : Nat) (s_ : List (List (List UInt8))) (s72 : slices.IndexFunc_strings_unit_may_1.S0) : Option (Unit ⊕ Int) := iterO (slices.IndexFunc_strings_unit_may_1.body0.c k s_) k s72

theorem slices.IndexFunc_strings_unit_may_1.loop0.c_le (k : Nat) (s_ : List (List (List UInt8))) (s72 : slices.IndexFunc_strings_unit_may_1.S0) : OLe (slices.IndexFunc_strings_unit_may_1.loop0.c k s_ s72) (slices.IndexFunc_strings_unit_may_1.loop0 s_ s72) := by
 unfold slices.IndexFunc_strings_unit_may_1.loop0.c slices.IndexFunc_strings_unit_may_1.loop0
 exact OLe.iter (fun s => slices.IndexFunc_strings_unit_may_1.body0.c_le k s_ s) k _

def slices.IndexFunc_strings_unit_may_1.c (k : Nat) (s_ : List (List (List UInt8))) : Option Int :=
 (slices.IndexFunc_strings_unit_may_1.loop0.c k s_ ⟨0⟩).bind fun s80 => onSum s80 (fun s59 =>
  some (-1)) fun s80x => some s80x

theorem slices.IndexFunc_strings_unit_may_1.c_le (k : Nat) (s_ : List (List (List UInt8))) : OLe (slices.IndexFunc_strings_unit_may_1.c k s_) (slices.IndexFunc_strings_unit_may_1 s_) := by
 unfold slices.IndexFunc_strings_unit_may_1.c slices.IndexFunc_strings_unit_may_1
 repeat' with_reducible first | exact OLe.refl _ | apply slices.IndexFunc_strings_unit_may_1.loop0.c_le | apply OLe.bind | apply OLe.need | apply OLe.letO | apply OLe.onSum | apply OLe.ite | intro _

def slices.ContainsFunc_strings_unit_may_1.c (k : Nat) (s_ : List (List (List UInt8))) : Option Bool :=
 (slices.IndexFunc_strings_unit_may_1.c k s_).bind fun r2 =>
 some (decide (0 ≤ r2))

theorem slices.ContainsFunc_strings_unit_may_1.c_le (k : Nat) (s_ : List (List (List UInt8))) : OLe (slices.ContainsFunc_strings_unit_may_1.c k s_) (slices.ContainsFunc_strings_unit_may_1 s_) := by
 unfold slices.ContainsFunc_strings_unit_may_1.c slices.ContainsFunc_strings_unit_may_1
 repeat' with_reducible first | exact OLe.refl _ | apply slices.IndexFunc_strings_unit_may_1.c_le | apply OLe.bind | apply OLe.need | apply OLe.letO | apply OLe.onSum | apply OLe.ite | intro _

def unit.may.c (k : Nat) (u_ : api.Unit) : Option Bool :=
 (
  if 0 < (u_.Cmds.length : Int) then
   if (u_.Cmds.length : Int) ≤ 4096 then
    (slices.ContainsFunc_strings_unit_may_1.c k u_.Cmds).bind fun r20 =>
    some (!r20)
   else
    some false
  else
   some false).bind fun s15 =>
 some s15

theorem unit.may.c_le (k : Nat) (u_ : api.Unit) : OLe (unit.may.c k u_) (unit.may u_) := by
 unfold unit.may.c unit.may
 repeat' with_reducible first | exact OLe.refl _ | apply slices.ContainsFunc_strings_unit_may_1.c_le | apply OLe.bind | apply OLe.need | apply OLe.letO | apply OLe.onSum | apply OLe.ite | intro _

def num.Text.body0.c (k : Nat)  (s109 : num.Text.S0) : Option (num.Text.S0 ⊕ (Int × (List UInt8))) :=
 need (InB (IntKind.wrap .i64 (s109.at_ - 1)) 20) <|
 need (s109.v.length = 20) <|
 need (InB (IntKind.wrap .i64 (s109.at_ - 1)) s109.v.length) <|
 need (IsU8 (IntKind.wrap .u8 (IntKind.wrap .u64 (48 + (s109.u.tmod 10))))) <|
 if (IntKind.wrap .u64 (s109.u.tdiv 10)) = 0 then
  some (.inr (IntKind.wrap .i64 (s109.at_ - 1), upd s109.v (IntKind.wrap .i64 (s109.at_ - 1)) (u8 (IntKind.wrap .u8 (IntKind.wrap .u64 (48 + (s109.u.tmod 10)))))))
 else
  some (.inl ⟨IntKind.wrap .i64 (s109.at_ - 1), IntKind.wrap .u64 (s109.u.tdiv 10), upd s109.v (IntKind.wrap .i64 (s109.at_ - 1)) (u8 (IntKind.wrap .u8 (IntKind.wrap .u64 (48 + (s109.u.tmod 10)))))⟩)

theorem num.Text.body0.c_le (k : Nat)  (s109 : num.Text.S0) : OLe (num.Text.body0.c k s109) (num.Text.body0 s109) := by
 unfold num.Text.body0.c num.Text.body0
 repeat' with_reducible first | exact OLe.refl _ | apply OLe.bind | apply OLe.need | apply OLe.letO | apply OLe.onSum | apply OLe.ite | intro _

def num.Text.loop0.c (k : Nat)  (s109 : num.Text.S0) : Option (Int × (List UInt8)) := iterO (num.Text.body0.c k ) k s109

theorem num.Text.loop0.c_le (k : Nat)  (s109 : num.Text.S0) : OLe (num.Text.loop0.c k s109) (num.Text.loop0 s109) := by
 unfold num.Text.loop0.c num.Text.loop0
 exact OLe.iter (fun s => num.Text.body0.c_le k  s) k _

def num.Text.c (k : Nat) (n_ : Int) : Option (List UInt8) :=
 letO (
  if n_ < 0 then
   IntKind.wrap .u64 (0 - (IntKind.wrap .u64 n_))
  else
   IntKind.wrap .u64 n_) fun s69 =>
 (num.Text.loop0.c k  ⟨20, s69, List.replicate 20 (0 : UInt8)⟩).bind fun s94 =>
 (
  if n_ < 0 then
   need (InB (IntKind.wrap .i64 (s94.1 - 1)) 20) <|
   need (s94.2.length = 20) <|
   need (InB (IntKind.wrap .i64 (s94.1 - 1)) s94.2.length) <|
   need (IsU8 45) <|
   some (IntKind.wrap .i64 (s94.1 - 1), upd s94.2 (IntKind.wrap .i64 (s94.1 - 1)) (u8 45))
  else
   some (s94.1, s94.2)).bind fun s123 =>
 need (InR s123.1 (s123.2.length : Int) s123.2.length) <|
 need (s123.2.length = 20) <|
 some (sub s123.2 s123.1 (s123.2.length : Int))

theorem num.Text.c_le (k : Nat) (n_ : Int) : OLe (num.Text.c k n_) (num.Text n_) := by
 unfold num.Text.c num.Text
 repeat' with_reducible first | exact OLe.refl _ | apply num.Text.loop0.c_le | apply OLe.bind | apply OLe.need | apply OLe.letO | apply OLe.onSum | apply OLe.ite | intro _

def parse.Put.body0.c (k : Nat) (args : List (List UInt8)) (s136 : parse.Put.S0) : Option (parse.Put.S0 ⊕ (List UInt8)) :=
 if s136.t14 < (args.length : Int) then
  need (InB s136.t14 args.length) <|
  (num.Text.c k ((ix args s136.t14).length : Int)).bind fun r141 =>
  need ([36].length + r141.length ≤ 9223372036854775807) <|
  need (([36] ++ r141).length + [13, 10].length ≤ 9223372036854775807) <|
  need ((([36] ++ r141) ++ [13, 10]).length + (ix args s136.t14).length ≤ 9223372036854775807) <|
  letO ((([36] ++ r141) ++ [13, 10]) ++ (ix args s136.t14)) fun x145 =>
  need (x145.length + [13, 10].length ≤ 9223372036854775807) <|
  need (s136.b.length + (x145 ++ [13, 10]).length ≤ 140737488355328) <|
  some (.inl ⟨IntKind.wrap .i64 (s136.t14 + 1), s136.b ++ (x145 ++ [13, 10])⟩)
 else
  some (.inr s136.b)

theorem parse.Put.body0.c_le (k : Nat) (args : List (List UInt8)) (s136 : parse.Put.S0) : OLe (parse.Put.body0.c k args s136) (parse.Put.body0 args s136) := by
 unfold parse.Put.body0.c parse.Put.body0
 repeat' with_reducible first | exact OLe.refl _ | apply num.Text.c_le | apply OLe.bind | apply OLe.need | apply OLe.letO | apply OLe.onSum | apply OLe.ite | intro _

def parse.Put.loop0.c (k : Nat) (args : List (List UInt8)) (s136 : parse.Put.S0) : Option (List UInt8) := iterO (parse.Put.body0.c k args) k s136

theorem parse.Put.loop0.c_le (k : Nat) (args : List (List UInt8)) (s136 : parse.Put.S0) : OLe (parse.Put.loop0.c k args s136) (parse.Put.loop0 args s136) := by
 unfold parse.Put.loop0.c parse.Put.loop0
 exact OLe.iter (fun s => parse.Put.body0.c_le k args s) k _

def parse.Put.c (k : Nat) (args : List (List UInt8)) : Option (List UInt8) :=
 (num.Text.c k (args.length : Int)).bind fun r76 =>
 need ([42].length + r76.length ≤ 9223372036854775807) <|
 need (([42] ++ r76).length + [13, 10].length ≤ 9223372036854775807) <|
 need (([] : List UInt8).length + (([42] ++ r76) ++ [13, 10]).length ≤ 140737488355328) <|
 (parse.Put.loop0.c k args ⟨0, ([] : List UInt8) ++ (([42] ++ r76) ++ [13, 10])⟩).bind fun s113 =>
 some s113

theorem parse.Put.c_le (k : Nat) (args : List (List UInt8)) : OLe (parse.Put.c k args) (parse.Put args) := by
 unfold parse.Put.c parse.Put
 repeat' with_reducible first | exact OLe.refl _ | apply num.Text.c_le | apply parse.Put.loop0.c_le | apply OLe.bind | apply OLe.need | apply OLe.letO | apply OLe.onSum | apply OLe.ite | intro _

def unit.load.body2.c (k : Nat) (u_ : api.Unit) (s461 : unit.load.S0) (s492 : unit.load.S2) : Option (unit.load.S2 ⊕ (Unit ⊕ (unit.load.S0 ⊕ ((List UInt8) ⊕ ((List UInt8) × Bool))))) :=
 if s492.t19 < ((ix u_.Cmds s461.t13).length : Int) then
  need (InB s492.t19 (ix u_.Cmds s461.t13).length) <|
  if 4194304 < (IntKind.wrap .i64 (s492.n + ((ix (ix u_.Cmds s461.t13) s492.t19).length : Int))) then
   some (.inr (.inr (.inr (.inr (([] : List UInt8), false)))))
  else
   some (.inl ⟨IntKind.wrap .i64 (s492.n + ((ix (ix u_.Cmds s461.t13) s492.t19).length : Int)), IntKind.wrap .i64 (s492.t19 + 1)⟩)
 else
  some (.inr (.inl ()))

theorem unit.load.body2.c_le (k : Nat) (u_ : api.Unit) (s461 : unit.load.S0) (s492 : unit.load.S2) : OLe (unit.load.body2.c k u_ s461 s492) (unit.load.body2 u_ s461 s492) := by
 unfold unit.load.body2.c unit.load.body2
 repeat' with_reducible first | exact OLe.refl _ | apply OLe.bind | apply OLe.need | apply OLe.letO | apply OLe.onSum | apply OLe.ite | intro _

def unit.load.loop2.c (k : Nat) (u_ : api.Unit) (s461 : unit.load.S0) (s492 : unit.load.S2) : Option (Unit ⊕ (unit.load.S0 ⊕ ((List UInt8) ⊕ ((List UInt8) × Bool)))) := iterO (unit.load.body2.c k u_ s461) k s492

theorem unit.load.loop2.c_le (k : Nat) (u_ : api.Unit) (s461 : unit.load.S0) (s492 : unit.load.S2) : OLe (unit.load.loop2.c k u_ s461 s492) (unit.load.loop2 u_ s461 s492) := by
 unfold unit.load.loop2.c unit.load.loop2
 exact OLe.iter (fun s => unit.load.body2.c_le k u_ s461 s) k _

def unit.load.body0.c (k : Nat) (u_ : api.Unit) (s461 : unit.load.S0) : Option (unit.load.S0 ⊕ ((List UInt8) ⊕ ((List UInt8) × Bool))) :=
 if s461.t13 < (u_.Cmds.length : Int) then
  need (InB s461.t13 u_.Cmds.length) <|
  (unit.load.loop2.c k u_ s461 ⟨0, 0⟩).bind fun s502 => onSum s502 (fun s481 =>
   (parse.Put.c k (ix u_.Cmds s461.t13)).bind fun r499 =>
   need (s461.b.length + r499.length ≤ 140737488355328) <|
   if 4194304 < ((s461.b ++ r499).length : Int) then
    some (.inr (.inr (([] : List UInt8), false)))
   else
    some (.inl ⟨IntKind.wrap .i64 (s461.t13 + 1), s461.b ++ r499⟩)) fun s502x => some s502x
 else
  some (.inr (.inl s461.b))

theorem unit.load.body0.c_le (k : Nat) (u_ : api.Unit) (s461 : unit.load.S0) : OLe (unit.load.body0.c k u_ s461) (unit.load.body0 u_ s461) := by
 unfold unit.load.body0.c unit.load.body0
 repeat' with_reducible first | exact OLe.refl _ | apply unit.load.loop2.c_le | apply parse.Put.c_le | apply OLe.bind | apply OLe.need | apply OLe.letO | apply OLe.onSum | apply OLe.ite | intro _

def unit.load.loop0.c (k : Nat) (u_ : api.Unit) (s461 : unit.load.S0) : Option ((List UInt8) ⊕ ((List UInt8) × Bool)) := iterO (unit.load.body0.c k u_) k s461

theorem unit.load.loop0.c_le (k : Nat) (u_ : api.Unit) (s461 : unit.load.S0) : OLe (unit.load.loop0.c k u_ s461) (unit.load.loop0 u_ s461) := by
 unfold unit.load.loop0.c unit.load.loop0
 exact OLe.iter (fun s => unit.load.body0.c_le k u_ s) k _

def unit.load.c (k : Nat) (u_ : api.Unit) : Option ((List UInt8) × Bool) :=
 (unit.load.loop0.c k u_ ⟨0, ([] : List UInt8)⟩).bind fun s504 => onSum s504 (fun s378 =>
  some (s378, true)) fun s504x => some s504x

theorem unit.load.c_le (k : Nat) (u_ : api.Unit) : OLe (unit.load.c k u_) (unit.load u_) := by
 unfold unit.load.c unit.load
 repeat' with_reducible first | exact OLe.refl _ | apply unit.load.loop0.c_le | apply OLe.bind | apply OLe.need | apply OLe.letO | apply OLe.onSum | apply OLe.ite | intro _

def unit.four.c (k : Nat) (n_ : Int) : Option (List UInt8) :=
 need (IsU8 (IntKind.wrap .u8 n_)) <|
 need (IsU8 (IntKind.wrap .u8 (n_ / 2 ^ min (Int.toNat 8) (IntKind.bits .u32)))) <|
 need (IsU8 (IntKind.wrap .u8 (n_ / 2 ^ min (Int.toNat 16) (IntKind.bits .u32)))) <|
 need (IsU8 (IntKind.wrap .u8 (n_ / 2 ^ min (Int.toNat 24) (IntKind.bits .u32)))) <|
 some [u8 (IntKind.wrap .u8 n_), u8 (IntKind.wrap .u8 (n_ / 2 ^ min (Int.toNat 8) (IntKind.bits .u32))), u8 (IntKind.wrap .u8 (n_ / 2 ^ min (Int.toNat 16) (IntKind.bits .u32))), u8 (IntKind.wrap .u8 (n_ / 2 ^ min (Int.toNat 24) (IntKind.bits .u32)))]

theorem unit.four.c_le (k : Nat) (n_ : Int) : OLe (unit.four.c k n_) (unit.four n_) := by
 unfold unit.four.c unit.four
 repeat' with_reducible first | exact OLe.refl _ | apply OLe.bind | apply OLe.need | apply OLe.letO | apply OLe.onSum | apply OLe.ite | intro _

def crc.Byte.body0.c (k : Nat)  (s53 : crc.Byte.S0) : Option (crc.Byte.S0 ⊕ Int) :=
 if s53.t9 < 8 then
  letO (Go.bits .xor .u32 (s53.n / 2 ^ min (Int.toNat 1) (IntKind.bits .u32)) (Go.bits .and .u32 3988292384 (IntKind.wrap .u32 (0 - (Go.bits .and .u32 s53.n 1))))) fun x57 =>
  some (.inl ⟨x57, IntKind.wrap .i64 (s53.t9 + 1)⟩)
 else
  some (.inr s53.n)

theorem crc.Byte.body0.c_le (k : Nat)  (s53 : crc.Byte.S0) : OLe (crc.Byte.body0.c k s53) (crc.Byte.body0 s53) := by
 unfold crc.Byte.body0.c crc.Byte.body0
 repeat' with_reducible first | exact OLe.refl _ | apply OLe.bind | apply OLe.need | apply OLe.letO | apply OLe.onSum | apply OLe.ite | intro _

def crc.Byte.loop0.c (k : Nat)  (s53 : crc.Byte.S0) : Option Int := iterO (crc.Byte.body0.c k ) k s53

theorem crc.Byte.loop0.c_le (k : Nat)  (s53 : crc.Byte.S0) : OLe (crc.Byte.loop0.c k s53) (crc.Byte.loop0 s53) := by
 unfold crc.Byte.loop0.c crc.Byte.loop0
 exact OLe.iter (fun s => crc.Byte.body0.c_le k  s) k _

def crc.Byte.c (k : Nat) (n_ : Int) (b : Int) : Option Int :=
 (crc.Byte.loop0.c k  ⟨Go.bits .xor .u32 n_ (IntKind.wrap .u32 b), 0⟩).bind fun s43 =>
 some s43

theorem crc.Byte.c_le (k : Nat) (n_ : Int) (b : Int) : OLe (crc.Byte.c k n_ b) (crc.Byte n_ b) := by
 unfold crc.Byte.c crc.Byte
 repeat' with_reducible first | exact OLe.refl _ | apply crc.Byte.loop0.c_le | apply OLe.bind | apply OLe.need | apply OLe.letO | apply OLe.onSum | apply OLe.ite | intro _

def crc.More.body0.c (k : Nat) (s_ : List UInt8) (s60 : crc.More.S0) : Option (crc.More.S0 ⊕ Int) :=
 if s60.t8 < (s_.length : Int) then
  need (InB s60.t8 s_.length) <|
  (crc.Byte.c k s60.n (bix s_ s60.t8)).bind fun r65 =>
  some (.inl ⟨r65, IntKind.wrap .i64 (s60.t8 + 1)⟩)
 else
  some (.inr s60.n)

theorem crc.More.body0.c_le (k : Nat) (s_ : List UInt8) (s60 : crc.More.S0) : OLe (crc.More.body0.c k s_ s60) (crc.More.body0 s_ s60) := by
 unfold crc.More.body0.c crc.More.body0
 repeat' with_reducible first | exact OLe.refl _ | apply crc.Byte.c_le | apply OLe.bind | apply OLe.need | apply OLe.letO | apply OLe.onSum | apply OLe.ite | intro _

def crc.More.loop0.c (k : Nat) (s_ : List UInt8) (s60 : crc.More.S0) : Option Int := iterO (crc.More.body0.c k s_) k s60

theorem crc.More.loop0.c_le (k : Nat) (s_ : List UInt8) (s60 : crc.More.S0) : OLe (crc.More.loop0.c k s_ s60) (crc.More.loop0 s_ s60) := by
 unfold crc.More.loop0.c crc.More.loop0
 exact OLe.iter (fun s => crc.More.body0.c_le k s_ s) k _

def crc.More.c (k : Nat) (n_ : Int) (s_ : List UInt8) : Option Int :=
 (crc.More.loop0.c k s_ ⟨n_, 0⟩).bind fun s49 =>
 some s49

theorem crc.More.c_le (k : Nat) (n_ : Int) (s_ : List UInt8) : OLe (crc.More.c k n_ s_) (crc.More n_ s_) := by
 unfold crc.More.c crc.More
 repeat' with_reducible first | exact OLe.refl _ | apply crc.More.loop0.c_le | apply OLe.bind | apply OLe.need | apply OLe.letO | apply OLe.onSum | apply OLe.ite | intro _

def crc.Of.body0.c (k : Nat) (parts : List (List UInt8)) (s60 : crc.Of.S0) : Option (crc.Of.S0 ⊕ Int) :=
 if s60.t8 < (parts.length : Int) then
  need (InB s60.t8 parts.length) <|
  (crc.More.c k s60.n (ix parts s60.t8)).bind fun r65 =>
  some (.inl ⟨r65, IntKind.wrap .i64 (s60.t8 + 1)⟩)
 else
  some (.inr s60.n)

theorem crc.Of.body0.c_le (k : Nat) (parts : List (List UInt8)) (s60 : crc.Of.S0) : OLe (crc.Of.body0.c k parts s60) (crc.Of.body0 parts s60) := by
 unfold crc.Of.body0.c crc.Of.body0
 repeat' with_reducible first | exact OLe.refl _ | apply crc.More.c_le | apply OLe.bind | apply OLe.need | apply OLe.letO | apply OLe.onSum | apply OLe.ite | intro _

def crc.Of.loop0.c (k : Nat) (parts : List (List UInt8)) (s60 : crc.Of.S0) : Option Int := iterO (crc.Of.body0.c k parts) k s60

theorem crc.Of.loop0.c_le (k : Nat) (parts : List (List UInt8)) (s60 : crc.Of.S0) : OLe (crc.Of.loop0.c k parts s60) (crc.Of.loop0 parts s60) := by
 unfold crc.Of.loop0.c crc.Of.loop0
 exact OLe.iter (fun s => crc.Of.body0.c_le k parts s) k _

def crc.Of.c (k : Nat) (parts : List (List UInt8)) : Option Int :=
 (crc.Of.loop0.c k parts ⟨4294967295, 0⟩).bind fun s49 =>
 some (Go.bits .xor .u32 (if IntKind.signed .u32 then -1 else IntKind.max .u32) s49)

theorem crc.Of.c_le (k : Nat) (parts : List (List UInt8)) : OLe (crc.Of.c k parts) (crc.Of parts) := by
 unfold crc.Of.c crc.Of
 repeat' with_reducible first | exact OLe.refl _ | apply crc.Of.loop0.c_le | apply OLe.bind | apply OLe.need | apply OLe.letO | apply OLe.onSum | apply OLe.ite | intro _

def crc.Seal.c (k : Nat) (s_ : List UInt8) : Option (List UInt8) :=
 (crc.Of.c k [s_]).bind fun r8 =>
 need (IsU8 (IntKind.wrap .u8 r8)) <|
 need (IsU8 (IntKind.wrap .u8 (r8 / 2 ^ min (Int.toNat 8) (IntKind.bits .u32)))) <|
 need (IsU8 (IntKind.wrap .u8 (r8 / 2 ^ min (Int.toNat 16) (IntKind.bits .u32)))) <|
 need (IsU8 (IntKind.wrap .u8 (r8 / 2 ^ min (Int.toNat 24) (IntKind.bits .u32)))) <|
 need (s_.length + [u8 (IntKind.wrap .u8 r8), u8 (IntKind.wrap .u8 (r8 / 2 ^ min (Int.toNat 8) (IntKind.bits .u32))), u8 (IntKind.wrap .u8 (r8 / 2 ^ min (Int.toNat 16) (IntKind.bits .u32))), u8 (IntKind.wrap .u8 (r8 / 2 ^ min (Int.toNat 24) (IntKind.bits .u32)))].length ≤ 9223372036854775807) <|
 letO (s_ ++ [u8 (IntKind.wrap .u8 r8), u8 (IntKind.wrap .u8 (r8 / 2 ^ min (Int.toNat 8) (IntKind.bits .u32))), u8 (IntKind.wrap .u8 (r8 / 2 ^ min (Int.toNat 16) (IntKind.bits .u32))), u8 (IntKind.wrap .u8 (r8 / 2 ^ min (Int.toNat 24) (IntKind.bits .u32)))]) fun x14 =>
 some x14

theorem crc.Seal.c_le (k : Nat) (s_ : List UInt8) : OLe (crc.Seal.c k s_) (crc.Seal s_) := by
 unfold crc.Seal.c crc.Seal
 repeat' with_reducible first | exact OLe.refl _ | apply crc.Of.c_le | apply OLe.bind | apply OLe.need | apply OLe.letO | apply OLe.onSum | apply OLe.ite | intro _

def unit.Put.c (k : Nat) (u_ : api.Unit) : Option ((List UInt8) × Int) :=
 (unit.may.c k u_).bind fun r11 =>
 if (!r11) = true then
  some (([] : List UInt8), 1)
 else
  (unit.load.c k u_).bind fun r12 =>
  if (!r12.2) = true then
   some (([] : List UInt8), 6)
  else
   (unit.four.c k (IntKind.wrap .u32 (r12.1.length : Int))).bind fun r13 =>
   need ([85].length + r13.length ≤ 9223372036854775807) <|
   need (([85] ++ r13).length + r12.1.length ≤ 9223372036854775807) <|
   (crc.Seal.c k (([85] ++ r13) ++ r12.1)).bind fun r16 =>
   some (r16, 0)

theorem unit.Put.c_le (k : Nat) (u_ : api.Unit) : OLe (unit.Put.c k u_) (unit.Put u_) := by
 unfold unit.Put.c unit.Put
 repeat' with_reducible first | exact OLe.refl _ | apply unit.may.c_le | apply unit.load.c_le | apply unit.four.c_le | apply crc.Seal.c_le | apply OLe.bind | apply OLe.need | apply OLe.letO | apply OLe.onSum | apply OLe.ite | intro _

def crc.Fits.c (k : Nat) (s_ : List UInt8) : Option Bool :=
 (
  if 4 ≤ (s_.length : Int) then
   need (InR 0 (IntKind.wrap .i64 ((s_.length : Int) - 4)) s_.length) <|
   (crc.Seal.c k (sub s_ 0 (IntKind.wrap .i64 ((s_.length : Int) - 4)))).bind fun r18 =>
   some (decide (r18 = s_))
  else
   some false).bind fun s13 =>
 some s13

theorem crc.Fits.c_le (k : Nat) (s_ : List UInt8) : OLe (crc.Fits.c k s_) (crc.Fits s_) := by
 unfold crc.Fits.c crc.Fits
 repeat' with_reducible first | exact OLe.refl _ | apply crc.Seal.c_le | apply OLe.bind | apply OLe.need | apply OLe.letO | apply OLe.onSum | apply OLe.ite | intro _

def parse.Limits.c (k : Nat) (l : api.Limits) : Option api.Limits :=
 some ({ Args := if 65536 < (if l.Args < 1 then 1 else l.Args) then 65536 else (if l.Args < 1 then 1 else l.Args), Bulk := if 1048576 < (if l.Bulk < 1 then 1 else l.Bulk) then 1048576 else (if l.Bulk < 1 then 1 else l.Bulk), Line := if 65536 < (if l.Line < 1 then 1 else l.Line) then 65536 else (if l.Line < 1 then 1 else l.Line) } : api.Limits)

theorem parse.Limits.c_le (k : Nat) (l : api.Limits) : OLe (parse.Limits.c k l) (parse.Limits l) := by
 unfold parse.Limits.c parse.Limits
 repeat' with_reducible first | exact OLe.refl _ | apply OLe.bind | apply OLe.need | apply OLe.letO | apply OLe.onSum | apply OLe.ite | intro _

def slices.Clone_string.c (k : Nat) (s : List (List UInt8)) : Option (List (List UInt8)) :=
 need ((([] : List (List UInt8)).length + s.length) * 16 ≤ 140737488355328) <|
 some s

theorem slices.Clone_string.c_le (k : Nat) (s : List (List UInt8)) : OLe (slices.Clone_string.c k s) (slices.Clone_string s) := by
 unfold slices.Clone_string.c slices.Clone_string
 repeat' with_reducible first | exact OLe.refl _ | apply OLe.bind | apply OLe.need | apply OLe.letO | apply OLe.onSum | apply OLe.ite | intro _

def parse.parser.dies.c (k : Nat) (e : Int) (p_ : parse.parser) : Option (Bool × parse.parser) :=
 some (false, { p_ with in_ := ({ Rest := ([] : List UInt8), Args := ([] : List (List UInt8)), Left := 0, Size := 0, Body := false, Need := 0, Dead := e } : api.Input), s := ([] : List UInt8) })

theorem parse.parser.dies.c_le (k : Nat) (e : Int) (p_ : parse.parser) : OLe (parse.parser.dies.c k e p_) (parse.parser.dies e p_) := by
 unfold parse.parser.dies.c parse.parser.dies
 repeat' with_reducible first | exact OLe.refl _ | apply OLe.bind | apply OLe.need | apply OLe.letO | apply OLe.onSum | apply OLe.ite | intro _

def stringslite.Clone.c (k : Nat) (s : List UInt8) : Option (List UInt8) :=
 need (s.length ≤ 281474976710656) <|
 some s

theorem stringslite.Clone.c_le (k : Nat) (s : List UInt8) : OLe (stringslite.Clone.c k s) (stringslite.Clone s) := by
 unfold stringslite.Clone.c stringslite.Clone
 repeat' with_reducible first | exact OLe.refl _ | apply OLe.bind | apply OLe.need | apply OLe.letO | apply OLe.onSum | apply OLe.ite | intro _

def strings.Clone.c (k : Nat) (s_ : List UInt8) : Option (List UInt8) :=
 (stringslite.Clone.c k s_).bind fun r2 =>
 some r2

theorem strings.Clone.c_le (k : Nat) (s_ : List UInt8) : OLe (strings.Clone.c k s_) (strings.Clone s_) := by
 unfold strings.Clone.c strings.Clone
 repeat' with_reducible first | exact OLe.refl _ | apply stringslite.Clone.c_le | apply OLe.bind | apply OLe.need | apply OLe.letO | apply OLe.onSum | apply OLe.ite | intro _

def parse.parser.past.c (k : Nat) (n_ : Int) (p_ : parse.parser) : Option parse.parser :=
 need (InR n_ (p_.s.length : Int) p_.s.length) <|
 some { p_ with in_ := { p_.in_ with Size := IntKind.wrap .i64 (p_.in_.Size + n_) }, s := sub p_.s n_ (p_.s.length : Int) }

theorem parse.parser.past.c_le (k : Nat) (n_ : Int) (p_ : parse.parser) : OLe (parse.parser.past.c k n_ p_) (parse.parser.past n_ p_) := by
 unfold parse.parser.past.c parse.parser.past
 repeat' with_reducible first | exact OLe.refl _ | apply OLe.bind | apply OLe.need | apply OLe.letO | apply OLe.onSum | apply OLe.ite | intro _

def parse.parser.whole.c (k : Nat) (args : List (List UInt8)) (p_ : parse.parser) : Option parse.parser :=
 (
  if 0 < (args.length : Int) then
   need ((p_.out.length + [({ Args := args, Size := p_.in_.Size } : api.Request)].length) * 32 ≤ 140737488355328) <|
   some (p_.out ++ [({ Args := args, Size := p_.in_.Size } : api.Request)])
  else
   some p_.out).bind fun s14 =>
 some { p_ with in_ := ({ Rest := ([] : List UInt8), Args := ([] : List (List UInt8)), Left := 0, Size := 0, Body := false, Need := 0, Dead := 0 } : api.Input), out := s14 }

theorem parse.parser.whole.c_le (k : Nat) (args : List (List UInt8)) (p_ : parse.parser) : OLe (parse.parser.whole.c k args p_) (parse.parser.whole args p_) := by
 unfold parse.parser.whole.c parse.parser.whole
 repeat' with_reducible first | exact OLe.refl _ | apply OLe.bind | apply OLe.need | apply OLe.letO | apply OLe.onSum | apply OLe.ite | intro _

def parse.parser.body.body0.c (k : Nat) (p_ : parse.parser) (s124 : parse.parser.body.S0) : Option (parse.parser.body.S0 ⊕ (Unit ⊕ (Bool × parse.parser))) :=
 if s124.t11 < 2 then
  if (IntKind.wrap .i64 ((p_.s.length : Int) - (if p_.in_.Need < 0 then 0 else p_.in_.Need))) ≤ s124.t11 then
   some (.inr (.inr (false, p_)))
  else
   need (InB (IntKind.wrap .i64 ((if p_.in_.Need < 0 then 0 else p_.in_.Need) + s124.t11)) p_.s.length) <|
   need (InB s124.t11 [13, 10].length) <|
   if (bix p_.s (IntKind.wrap .i64 ((if p_.in_.Need < 0 then 0 else p_.in_.Need) + s124.t11))) = (bix [13, 10] s124.t11) then
    some (.inl ⟨IntKind.wrap .i64 (s124.t11 + 1)⟩)
   else
    (parse.parser.dies.c k 5 p_).bind fun r130 =>
    some (.inr (.inr (r130.1, r130.2)))
 else
  some (.inr (.inl ()))

theorem parse.parser.body.body0.c_le (k : Nat) (p_ : parse.parser) (s124 : parse.parser.body.S0) : OLe (parse.parser.body.body0.c k p_ s124) (parse.parser.body.body0 p_ s124) := by
 unfold parse.parser.body.body0.c parse.parser.body.body0
 repeat' with_reducible first | exact OLe.refl _ | apply parse.parser.dies.c_le | apply OLe.bind | apply OLe.need | apply OLe.letO | apply OLe.onSum | apply OLe.ite | intro _

def parse.parser.body.loop0.c (k : Nat) (p_ : parse.parser) (s124 : parse.parser.body.S0) : Option (Unit ⊕ (Bool × parse.parser)) := iterO (parse.parser.body.body0.c k p_) k s124

theorem parse.parser.body.loop0.c_le (k : Nat) (p_ : parse.parser) (s124 : parse.parser.body.S0) : OLe (parse.parser.body.loop0.c k p_ s124) (parse.parser.body.loop0 p_ s124) := by
 unfold parse.parser.body.loop0.c parse.parser.body.loop0
 exact OLe.iter (fun s => parse.parser.body.body0.c_le k p_ s) k _

def parse.parser.body.c (k : Nat) (p_ : parse.parser) : Option (Bool × parse.parser) :=
 (parse.parser.body.loop0.c k p_ ⟨0⟩).bind fun s155 => onSum s155 (fun s105 =>
  need (InR 0 (if p_.in_.Need < 0 then 0 else p_.in_.Need) p_.s.length) <|
  (strings.Clone.c k (sub p_.s 0 (if p_.in_.Need < 0 then 0 else p_.in_.Need))).bind fun r137 =>
  need ((p_.in_.Args.length + [r137].length) * 16 ≤ 140737488355328) <|
  (parse.parser.past.c k (IntKind.wrap .i64 ((if p_.in_.Need < 0 then 0 else p_.in_.Need) + 2)) { p_ with in_ := ({ Rest := p_.in_.Rest, Args := p_.in_.Args ++ [r137], Left := IntKind.wrap .i64 (p_.in_.Left - 1), Size := p_.in_.Size, Body := false, Need := 0, Dead := p_.in_.Dead } : api.Input) }).bind fun r140 =>
  (
   if r140.in_.Left = 0 then
    (parse.parser.whole.c k r140.in_.Args r140).bind fun r151 =>
    some (r151.in_.Rest, r151.in_.Args, r151.in_.Left, r151.in_.Size, r151.in_.Body, r151.in_.Need, r151.in_.Dead, r151.s, r151.l.Args, r151.l.Bulk, r151.l.Line, r151.out)
   else
    some (r140.in_.Rest, r140.in_.Args, r140.in_.Left, r140.in_.Size, r140.in_.Body, r140.in_.Need, r140.in_.Dead, r140.s, r140.l.Args, r140.l.Bulk, r140.l.Line, r140.out)).bind fun s146 =>
  some (true, ({ in_ := ({ Rest := s146.1, Args := s146.2.1, Left := s146.2.2.1, Size := s146.2.2.2.1, Body := s146.2.2.2.2.1, Need := s146.2.2.2.2.2.1, Dead := s146.2.2.2.2.2.2.1 } : api.Input), s := s146.2.2.2.2.2.2.2.1, l := ({ Args := s146.2.2.2.2.2.2.2.2.1, Bulk := s146.2.2.2.2.2.2.2.2.2.1, Line := s146.2.2.2.2.2.2.2.2.2.2.1 } : api.Limits), out := s146.2.2.2.2.2.2.2.2.2.2.2 } : parse.parser))) fun s155x => some s155x

theorem parse.parser.body.c_le (k : Nat) (p_ : parse.parser) : OLe (parse.parser.body.c k p_) (parse.parser.body p_) := by
 unfold parse.parser.body.c parse.parser.body
 repeat' with_reducible first | exact OLe.refl _ | apply parse.parser.body.loop0.c_le | apply strings.Clone.c_le | apply parse.parser.past.c_le | apply parse.parser.whole.c_le | apply OLe.bind | apply OLe.need | apply OLe.letO | apply OLe.onSum | apply OLe.ite | intro _

def parse.parser.header.body0.c (k : Nat) (p_ : parse.parser) (most : Int) (over : Int) (s389 : parse.parser.header.S0) : Option (parse.parser.header.S0 ⊕ (Unit ⊕ (Int × Bool × parse.parser))) :=
 if s389.i < (p_.s.length : Int) then
  need (InB s389.i p_.s.length) <|
  letO (
   if (bix p_.s s389.i) = 13 then
    decide (1 < s389.i)
   else
    false) fun s395 =>
  if s395 = true then
   if (IntKind.wrap .i64 (s389.i + 1)) = (p_.s.length : Int) then
    some (.inr (.inr (0, false, p_)))
   else
    need (InB (IntKind.wrap .i64 (s389.i + 1)) p_.s.length) <|
    if (bix p_.s (IntKind.wrap .i64 (s389.i + 1))) = 10 then
     (parse.parser.past.c k (IntKind.wrap .i64 (s389.i + 2)) p_).bind fun r403 =>
     some (.inr (.inr (s389.n, true, r403)))
    else
     (parse.parser.dies.c k 5 p_).bind fun r400 =>
     some (.inr (.inr (0, r400.1, r400.2)))
  else
   letO (
    if (bix p_.s s389.i) < 48 then
     true
    else
     if 57 < (bix p_.s s389.i) then
      true
     else
      if 1 < s389.i then
       decide (s389.n = 0)
      else
       false) fun s411 =>
   if s411 = true then
    (parse.parser.dies.c k 5 p_).bind fun r417 =>
    some (.inr (.inr (0, r417.1, r417.2)))
   else
    letO (IntKind.wrap .i64 ((IntKind.wrap .i64 (10 * s389.n)) + (IntKind.wrap .i64 (IntKind.wrap .u8 ((bix p_.s s389.i) - 48))))) fun x420 =>
    if most < x420 then
     (parse.parser.dies.c k over p_).bind fun r421 =>
     some (.inr (.inr (0, r421.1, r421.2)))
    else
     some (.inl ⟨x420, IntKind.wrap .i64 (s389.i + 1)⟩)
 else
  some (.inr (.inl ()))

theorem parse.parser.header.body0.c_le (k : Nat) (p_ : parse.parser) (most : Int) (over : Int) (s389 : parse.parser.header.S0) : OLe (parse.parser.header.body0.c k p_ most over s389) (parse.parser.header.body0 p_ most over s389) := by
 unfold parse.parser.header.body0.c parse.parser.header.body0
 repeat' with_reducible first | exact OLe.refl _ | apply parse.parser.past.c_le | apply parse.parser.dies.c_le | apply OLe.bind | apply OLe.need | apply OLe.letO | apply OLe.onSum | apply OLe.ite | intro _

def parse.parser.header.loop0.c (k : Nat) (p_ : parse.parser) (most : Int) (over : Int) (s389 : parse.parser.header.S0) : Option (Unit ⊕ (Int × Bool × parse.parser)) := iterO (parse.parser.header.body0.c k p_ most over) k s389

theorem parse.parser.header.loop0.c_le (k : Nat) (p_ : parse.parser) (most : Int) (over : Int) (s389 : parse.parser.header.S0) : OLe (parse.parser.header.loop0.c k p_ most over s389) (parse.parser.header.loop0 p_ most over s389) := by
 unfold parse.parser.header.loop0.c parse.parser.header.loop0
 exact OLe.iter (fun s => parse.parser.header.body0.c_le k p_ most over s) k _

def parse.parser.header.c (k : Nat) (mark : Int) (most : Int) (over : Int) (p_ : parse.parser) : Option (Int × Bool × parse.parser) :=
 if p_.s = ([] : List UInt8) then
  some (0, false, p_)
 else
  need (InB 0 p_.s.length) <|
  if (bix p_.s 0) = mark then
   (parse.parser.header.loop0.c k p_ most over ⟨0, 1⟩).bind fun s428 => onSum s428 (fun s320 =>
    some (0, false, p_)) fun s428x => some s428x
  else
   (parse.parser.dies.c k 5 p_).bind fun r215 =>
   some (0, r215.1, r215.2)

theorem parse.parser.header.c_le (k : Nat) (mark : Int) (most : Int) (over : Int) (p_ : parse.parser) : OLe (parse.parser.header.c k mark most over p_) (parse.parser.header mark most over p_) := by
 unfold parse.parser.header.c parse.parser.header
 repeat' with_reducible first | exact OLe.refl _ | apply parse.parser.header.loop0.c_le | apply parse.parser.dies.c_le | apply OLe.bind | apply OLe.need | apply OLe.letO | apply OLe.onSum | apply OLe.ite | intro _

def stringslite.IndexByte.c (k : Nat) (s_ : List UInt8) (c_ : Int) : Option Int :=
 some (Lib.indexByte s_ (u8 c_))

theorem stringslite.IndexByte.c_le (k : Nat) (s_ : List UInt8) (c_ : Int) : OLe (stringslite.IndexByte.c k s_ c_) (stringslite.IndexByte s_ c_) := by
 unfold stringslite.IndexByte.c stringslite.IndexByte
 repeat' with_reducible first | exact OLe.refl _ | apply OLe.bind | apply OLe.need | apply OLe.letO | apply OLe.onSum | apply OLe.ite | intro _

def strings.IndexByte.c (k : Nat) (s_ : List UInt8) (c_ : Int) : Option Int :=
 (stringslite.IndexByte.c k s_ c_).bind fun r2 =>
 some r2

theorem strings.IndexByte.c_le (k : Nat) (s_ : List UInt8) (c_ : Int) : OLe (strings.IndexByte.c k s_ c_) (strings.IndexByte s_ c_) := by
 unfold strings.IndexByte.c strings.IndexByte
 repeat' with_reducible first | exact OLe.refl _ | apply stringslite.IndexByte.c_le | apply OLe.bind | apply OLe.need | apply OLe.letO | apply OLe.onSum | apply OLe.ite | intro _

def stringslite.HasSuffix.c (k : Nat) (s_ : List UInt8) (suffix : List UInt8) : Option Bool :=
 (
  if (suffix.length : Int) ≤ (s_.length : Int) then
   need (InR (IntKind.wrap .i64 ((s_.length : Int) - (suffix.length : Int))) (s_.length : Int) s_.length) <|
   some (decide ((sub s_ (IntKind.wrap .i64 ((s_.length : Int) - (suffix.length : Int))) (s_.length : Int)) = suffix))
  else
   some false).bind fun s10 =>
 some s10

theorem stringslite.HasSuffix.c_le (k : Nat) (s_ : List UInt8) (suffix : List UInt8) : OLe (stringslite.HasSuffix.c k s_ suffix) (stringslite.HasSuffix s_ suffix) := by
 unfold stringslite.HasSuffix.c stringslite.HasSuffix
 repeat' with_reducible first | exact OLe.refl _ | apply OLe.bind | apply OLe.need | apply OLe.letO | apply OLe.onSum | apply OLe.ite | intro _

def stringslite.TrimSuffix.c (k : Nat) (s_ : List UInt8) (suffix : List UInt8) : Option (List UInt8) :=
 (stringslite.HasSuffix.c k s_ suffix).bind fun r4 =>
 if r4 = true then
  need (InR 0 (IntKind.wrap .i64 ((s_.length : Int) - (suffix.length : Int))) s_.length) <|
  some (sub s_ 0 (IntKind.wrap .i64 ((s_.length : Int) - (suffix.length : Int))))
 else
  some s_

theorem stringslite.TrimSuffix.c_le (k : Nat) (s_ : List UInt8) (suffix : List UInt8) : OLe (stringslite.TrimSuffix.c k s_ suffix) (stringslite.TrimSuffix s_ suffix) := by
 unfold stringslite.TrimSuffix.c stringslite.TrimSuffix
 repeat' with_reducible first | exact OLe.refl _ | apply stringslite.HasSuffix.c_le | apply OLe.bind | apply OLe.need | apply OLe.letO | apply OLe.onSum | apply OLe.ite | intro _

def strings.TrimSuffix.c (k : Nat) (s_ : List UInt8) (suffix : List UInt8) : Option (List UInt8) :=
 (stringslite.TrimSuffix.c k s_ suffix).bind fun r2 =>
 some r2

theorem strings.TrimSuffix.c_le (k : Nat) (s_ : List UInt8) (suffix : List UInt8) : OLe (strings.TrimSuffix.c k s_ suffix) (strings.TrimSuffix s_ suffix) := by
 unfold strings.TrimSuffix.c strings.TrimSuffix
 repeat' with_reducible first | exact OLe.refl _ | apply stringslite.TrimSuffix.c_le | apply OLe.bind | apply OLe.need | apply OLe.letO | apply OLe.onSum | apply OLe.ite | intro _

def line.blank.c (k : Nat) (c_ : Int) : Option Bool :=
 letO (
  if c_ = 32 then
   true
  else
   decide (c_ = 9)) fun s7 =>
 some s7

theorem line.blank.c_le (k : Nat) (c_ : Int) : OLe (line.blank.c k c_) (line.blank c_) := by
 unfold line.blank.c line.blank
 repeat' with_reducible first | exact OLe.refl _ | apply OLe.bind | apply OLe.need | apply OLe.letO | apply OLe.onSum | apply OLe.ite | intro _

def line.quoted_1.c (k : Nat) (i : Int) (a1_ : List UInt8) : Option Bool :=
 (
  if i = (a1_.length : Int) then
   some true
  else
   need (InB i a1_.length) <|
   (line.blank.c k (bix a1_ i)).bind fun r18 =>
   some r18).bind fun s13 =>
 some s13

theorem line.quoted_1.c_le (k : Nat) (i : Int) (a1_ : List UInt8) : OLe (line.quoted_1.c k i a1_) (line.quoted_1 i a1_) := by
 unfold line.quoted_1.c line.quoted_1
 repeat' with_reducible first | exact OLe.refl _ | apply line.blank.c_le | apply OLe.bind | apply OLe.need | apply OLe.letO | apply OLe.onSum | apply OLe.ite | intro _

def line.hex.c (k : Nat) (c_ : Int) : Option Int :=
 letO (
  if 48 ≤ c_ then
   decide (c_ ≤ 57)
  else
   false) fun s20 =>
 if s20 = true then
  some (IntKind.wrap .i64 (IntKind.wrap .u8 (c_ - 48)))
 else
  letO (
   if 97 ≤ c_ then
    decide (c_ ≤ 102)
   else
    false) fun s25 =>
  if s25 = true then
   some (IntKind.wrap .i64 ((IntKind.wrap .i64 (IntKind.wrap .u8 (c_ - 97))) + 10))
  else
   letO (
    if 65 ≤ c_ then
     decide (c_ ≤ 70)
    else
     false) fun s30 =>
   if s30 = true then
    some (IntKind.wrap .i64 ((IntKind.wrap .i64 (IntKind.wrap .u8 (c_ - 65))) + 10))
   else
    some (-1)

theorem line.hex.c_le (k : Nat) (c_ : Int) : OLe (line.hex.c k c_) (line.hex c_) := by
 unfold line.hex.c line.hex
 repeat' with_reducible first | exact OLe.refl _ | apply OLe.bind | apply OLe.need | apply OLe.letO | apply OLe.onSum | apply OLe.ite | intro _

def line.turn.c (k : Nat) (s_ : List UInt8) (at_ : Int) : Option (Int × Int) :=
 (
  need (InB at_ s_.length) <|
  if (bix s_ at_) = 120 then
   if (IntKind.wrap .i64 (at_ + 2)) < (s_.length : Int) then
    need (InB (IntKind.wrap .i64 (at_ + 1)) s_.length) <|
    (line.hex.c k (bix s_ (IntKind.wrap .i64 (at_ + 1)))).bind fun r47 =>
    if 0 ≤ r47 then
     need (InB (IntKind.wrap .i64 (at_ + 2)) s_.length) <|
     (line.hex.c k (bix s_ (IntKind.wrap .i64 (at_ + 2)))).bind fun r50 =>
     some (decide (0 ≤ r50))
    else
     some false
   else
    some false
  else
   some false).bind fun s40 =>
 if s40 = true then
  need (InB (IntKind.wrap .i64 (at_ + 1)) s_.length) <|
  (line.hex.c k (bix s_ (IntKind.wrap .i64 (at_ + 1)))).bind fun r52 =>
  need (InB (IntKind.wrap .i64 (at_ + 2)) s_.length) <|
  (line.hex.c k (bix s_ (IntKind.wrap .i64 (at_ + 2)))).bind fun r54 =>
  some (IntKind.wrap .u8 (IntKind.wrap .i64 ((IntKind.wrap .i64 (16 * r52)) + r54)), IntKind.wrap .i64 (at_ + 3))
 else
  need (InB at_ s_.length) <|
  if (bix s_ at_) = 110 then
   some (10, IntKind.wrap .i64 (at_ + 1))
  else
   if (bix s_ at_) = 114 then
    some (13, IntKind.wrap .i64 (at_ + 1))
   else
    if (bix s_ at_) = 116 then
     some (9, IntKind.wrap .i64 (at_ + 1))
    else
     if (bix s_ at_) = 98 then
      some (8, IntKind.wrap .i64 (at_ + 1))
     else
      if (bix s_ at_) = 97 then
       some (7, IntKind.wrap .i64 (at_ + 1))
      else
       need (InB at_ s_.length) <|
       some (bix s_ at_, IntKind.wrap .i64 (at_ + 1))

theorem line.turn.c_le (k : Nat) (s_ : List UInt8) (at_ : Int) : OLe (line.turn.c k s_ at_) (line.turn s_ at_) := by
 unfold line.turn.c line.turn
 repeat' with_reducible first | exact OLe.refl _ | apply line.hex.c_le | apply OLe.bind | apply OLe.need | apply OLe.letO | apply OLe.onSum | apply OLe.ite | intro _

def line.quoted.body0.c (k : Nat) (s_ : List UInt8) (mark : Int) (s414 : line.quoted.S0) : Option (line.quoted.S0 ⊕ (Int ⊕ ((List UInt8) × Int × Bool))) :=
 if s414.at_ < (s_.length : Int) then
  need (InB s414.at_ s_.length) <|
  if (bix s_ s414.at_) = mark then
   (line.quoted_1.c k (IntKind.wrap .i64 (s414.at_ + 1)) s_).bind fun r420 =>
   some (.inr (.inr (s414.b, IntKind.wrap .i64 (s414.at_ + 1), r420)))
  else
   letO (
    if (bix s_ s414.at_) = 92 then
     if mark = 34 then
      decide ((IntKind.wrap .i64 (s414.at_ + 1)) < (s_.length : Int))
     else
      false
    else
     false) fun s423 =>
   if s423 = true then
    (line.turn.c k s_ (IntKind.wrap .i64 (s414.at_ + 1))).bind fun r428 =>
    need (IsU8 r428.1) <|
    need ((s414.b.length + [u8 r428.1].length) * 1 ≤ 140737488355328) <|
    some (.inl ⟨r428.2, s414.b ++ [u8 r428.1]⟩)
   else
    (
     if (bix s_ s414.at_) = 92 then
      if mark = 39 then
       if (IntKind.wrap .i64 (s414.at_ + 1)) < (s_.length : Int) then
        need (InB (IntKind.wrap .i64 (s414.at_ + 1)) s_.length) <|
        some (decide ((bix s_ (IntKind.wrap .i64 (s414.at_ + 1))) = mark))
       else
        some false
      else
       some false
     else
      some false).bind fun s436 =>
    if s436 = true then
     need (IsU8 mark) <|
     need ((s414.b.length + [u8 mark].length) * 1 ≤ 140737488355328) <|
     some (.inl ⟨IntKind.wrap .i64 (s414.at_ + 2), s414.b ++ [u8 mark]⟩)
    else
     need (IsU8 (bix s_ s414.at_)) <|
     need ((s414.b.length + [u8 (bix s_ s414.at_)].length) * 1 ≤ 140737488355328) <|
     some (.inl ⟨IntKind.wrap .i64 (s414.at_ + 1), s414.b ++ [u8 (bix s_ s414.at_)]⟩)
 else
  some (.inr (.inl s414.at_))

theorem line.quoted.body0.c_le (k : Nat) (s_ : List UInt8) (mark : Int) (s414 : line.quoted.S0) : OLe (line.quoted.body0.c k s_ mark s414) (line.quoted.body0 s_ mark s414) := by
 unfold line.quoted.body0.c line.quoted.body0
 repeat' with_reducible first | exact OLe.refl _ | apply line.quoted_1.c_le | apply line.turn.c_le | apply OLe.bind | apply OLe.need | apply OLe.letO | apply OLe.onSum | apply OLe.ite | intro _

def line.quoted.loop0.c (k : Nat) (s_ : List UInt8) (mark : Int) (s414 : line.quoted.S0) : Option (Int ⊕ ((List UInt8) × Int × Bool)) := iterO (line.quoted.body0.c k s_ mark) k s414

theorem line.quoted.loop0.c_le (k : Nat) (s_ : List UInt8) (mark : Int) (s414 : line.quoted.S0) : OLe (line.quoted.loop0.c k s_ mark s414) (line.quoted.loop0 s_ mark s414) := by
 unfold line.quoted.loop0.c line.quoted.loop0
 exact OLe.iter (fun s => line.quoted.body0.c_le k s_ mark s) k _

def line.quoted.c (k : Nat) (s_ : List UInt8) (at_ : Int) (mark : Int) : Option ((List UInt8) × Int × Bool) :=
 (line.quoted.loop0.c k s_ mark ⟨at_, ([] : List UInt8)⟩).bind fun s455 => onSum s455 (fun s340 =>
  some (([] : List UInt8), s340, false)) fun s455x => some s455x

theorem line.quoted.c_le (k : Nat) (s_ : List UInt8) (at_ : Int) (mark : Int) : OLe (line.quoted.c k s_ at_ mark) (line.quoted s_ at_ mark) := by
 unfold line.quoted.c line.quoted
 repeat' with_reducible first | exact OLe.refl _ | apply line.quoted.loop0.c_le | apply OLe.bind | apply OLe.need | apply OLe.letO | apply OLe.onSum | apply OLe.ite | intro _

def line.Split.body2.c (k : Nat) (s_ : List UInt8) (s1484 : line.Split.S2) : Option (line.Split.S2 ⊕ Int) :=
 (
  if s1484.at_ < (s_.length : Int) then
   need (InB s1484.at_ s_.length) <|
   (line.blank.c k (bix s_ s1484.at_)).bind fun r1496 =>
   some r1496
  else
   some false).bind fun s1491 =>
 if s1491 = true then
  some (.inl ⟨IntKind.wrap .i64 (s1484.at_ + 1)⟩)
 else
  some (.inr s1484.at_)

theorem line.Split.body2.c_le (k : Nat) (s_ : List UInt8) (s1484 : line.Split.S2) : OLe (line.Split.body2.c k s_ s1484) (line.Split.body2 s_ s1484) := by
 unfold line.Split.body2.c line.Split.body2
 repeat' with_reducible first | exact OLe.refl _ | apply line.blank.c_le | apply OLe.bind | apply OLe.need | apply OLe.letO | apply OLe.onSum | apply OLe.ite | intro _

def line.Split.loop2.c (k : Nat) (s_ : List UInt8) (s1484 : line.Split.S2) : Option Int := iterO (line.Split.body2.c k s_) k s1484

theorem line.Split.loop2.c_le (k : Nat) (s_ : List UInt8) (s1484 : line.Split.S2) : OLe (line.Split.loop2.c k s_ s1484) (line.Split.loop2 s_ s1484) := by
 unfold line.Split.loop2.c line.Split.loop2
 exact OLe.iter (fun s => line.Split.body2.c_le k s_ s) k _

def line.Split.body4.c (k : Nat) (s_ : List UInt8) (s1664 : line.Split.S4) : Option (line.Split.S4 ⊕ ((Int × (List UInt8)) ⊕ (line.Split.S0 ⊕ ((List (List UInt8)) × Bool)))) :=
 (
  if s1664.at_ < (s_.length : Int) then
   need (InB s1664.at_ s_.length) <|
   (line.blank.c k (bix s_ s1664.at_)).bind fun r1677 =>
   some (!r1677)
  else
   some false).bind fun s1672 =>
 if s1672 = true then
  (
   need (InB s1664.at_ s_.length) <|
   if (bix s_ s1664.at_) = 34 then
    some false
   else
    need (InB s1664.at_ s_.length) <|
    some (!decide ((bix s_ s1664.at_) = 39))).bind fun s1681 =>
  if s1681 = true then
   need (InB s1664.at_ s_.length) <|
   need (IsU8 (bix s_ s1664.at_)) <|
   need ((s1664.b.length + [u8 (bix s_ s1664.at_)].length) * 1 ≤ 140737488355328) <|
   some (.inl ⟨IntKind.wrap .i64 (s1664.at_ + 1), s1664.b ++ [u8 (bix s_ s1664.at_)]⟩)
  else
   need (InB s1664.at_ s_.length) <|
   (line.quoted.c k s_ (IntKind.wrap .i64 (s1664.at_ + 1)) (bix s_ s1664.at_)).bind fun r1692 =>
   if (!r1692.2.2) = true then
    some (.inr (.inr (.inr (([] : List (List UInt8)), false))))
   else
    need ((s1664.b.length + r1692.1.length) * 1 ≤ 140737488355328) <|
    some (.inl ⟨r1692.2.1, s1664.b ++ r1692.1⟩)
 else
  some (.inr (.inl (s1664.at_, s1664.b)))

theorem line.Split.body4.c_le (k : Nat) (s_ : List UInt8) (s1664 : line.Split.S4) : OLe (line.Split.body4.c k s_ s1664) (line.Split.body4 s_ s1664) := by
 unfold line.Split.body4.c line.Split.body4
 repeat' with_reducible first | exact OLe.refl _ | apply line.blank.c_le | apply line.quoted.c_le | apply OLe.bind | apply OLe.need | apply OLe.letO | apply OLe.onSum | apply OLe.ite | intro _

def line.Split.loop4.c (k : Nat) (s_ : List UInt8) (s1664 : line.Split.S4) : Option ((Int × (List UInt8)) ⊕ (line.Split.S0 ⊕ ((List (List UInt8)) × Bool))) := iterO (line.Split.body4.c k s_) k s1664

theorem line.Split.loop4.c_le (k : Nat) (s_ : List UInt8) (s1664 : line.Split.S4) : OLe (line.Split.loop4.c k s_ s1664) (line.Split.loop4 s_ s1664) := by
 unfold line.Split.loop4.c line.Split.loop4
 exact OLe.iter (fun s => line.Split.body4.c_le k s_ s) k _

def line.Split.body0.c (k : Nat) (s_ : List UInt8) (s1418 : line.Split.S0) : Option (line.Split.S0 ⊕ ((List (List UInt8)) × Bool)) :=
 (line.Split.loop2.c k s_ ⟨s1418.at_⟩).bind fun s1459 =>
 if s1459 = (s_.length : Int) then
  some (.inr (s1418.out, true))
 else
  (line.Split.loop4.c k s_ ⟨s1459, ([] : List UInt8)⟩).bind fun s1703 => onSum s1703 (fun s1597 =>
   need ((s1418.out.length + [s1597.2].length) * 16 ≤ 140737488355328) <|
   some (.inl ⟨s1418.out ++ [s1597.2], s1597.1⟩)) fun s1703x => some s1703x

theorem line.Split.body0.c_le (k : Nat) (s_ : List UInt8) (s1418 : line.Split.S0) : OLe (line.Split.body0.c k s_ s1418) (line.Split.body0 s_ s1418) := by
 unfold line.Split.body0.c line.Split.body0
 repeat' with_reducible first | exact OLe.refl _ | apply line.Split.loop2.c_le | apply line.Split.loop4.c_le | apply OLe.bind | apply OLe.need | apply OLe.letO | apply OLe.onSum | apply OLe.ite | intro _

def line.Split.loop0.c (k : Nat) (s_ : List UInt8) (s1418 : line.Split.S0) : Option ((List (List UInt8)) × Bool) := iterO (line.Split.body0.c k s_) k s1418

theorem line.Split.loop0.c_le (k : Nat) (s_ : List UInt8) (s1418 : line.Split.S0) : OLe (line.Split.loop0.c k s_ s1418) (line.Split.loop0 s_ s1418) := by
 unfold line.Split.loop0.c line.Split.loop0
 exact OLe.iter (fun s => line.Split.body0.c_le k s_ s) k _

def line.Split.c (k : Nat) (s_ : List UInt8) : Option ((List (List UInt8)) × Bool) :=
 line.Split.loop0.c k s_ ⟨([] : List (List UInt8)), 0⟩

theorem line.Split.c_le (k : Nat) (s_ : List UInt8) : OLe (line.Split.c k s_) (line.Split s_) := by
 unfold line.Split.c line.Split
 repeat' with_reducible first | exact OLe.refl _ | apply line.Split.loop0.c_le | apply OLe.bind | apply OLe.need | apply OLe.letO | apply OLe.onSum | apply OLe.ite | intro _

def parse.parser.line_1.c (k : Nat) (s_ : List UInt8) (b1_ : parse.parser) : Option Bool :=
 some (decide (b1_.l.Bulk < (s_.length : Int)))

theorem parse.parser.line_1.c_le (k : Nat) (s_ : List UInt8) (b1_ : parse.parser) : OLe (parse.parser.line_1.c k s_ b1_) (parse.parser.line_1 s_ b1_) := by
 unfold parse.parser.line_1.c parse.parser.line_1
 repeat' with_reducible first | exact OLe.refl _ | apply OLe.bind | apply OLe.need | apply OLe.letO | apply OLe.onSum | apply OLe.ite | intro _

def slices.IndexFunc_string_parse_parser_line_1.body0.c (k : Nat) (s_ : List (List UInt8)) (b1_ : parse.parser) (s112 : slices.IndexFunc_string_parse_parser_line_1.S0) : Option (slices.IndexFunc_string_parse_parser_line_1.S0 ⊕ (Unit ⊕ Int)) :=
 if s112.t8 < (s_.length : Int) then
  need (InB s112.t8 s_.length) <|
  (parse.parser.line_1.c k (ix s_ s112.t8) b1_).bind fun r119 =>
  if r119 = true then
   some (.inr (.inr s112.t8))
  else
   some (.inl ⟨IntKind.wrap .i64 (s112.t8 + 1)⟩)
 else
  some (.inr (.inl ()))

theorem slices.IndexFunc_string_parse_parser_line_1.body0.c_le (k : Nat) (s_ : List (List UInt8)) (b1_ : parse.parser) (s112 : slices.IndexFunc_string_parse_parser_line_1.S0) : OLe (slices.IndexFunc_string_parse_parser_line_1.body0.c k s_ b1_ s112) (slices.IndexFunc_string_parse_parser_line_1.body0 s_ b1_ s112) := by
 unfold slices.IndexFunc_string_parse_parser_line_1.body0.c slices.IndexFunc_string_parse_parser_line_1.body0
 repeat' with_reducible first | exact OLe.refl _ | apply parse.parser.line_1.c_le | apply OLe.bind | apply OLe.need | apply OLe.letO | apply OLe.onSum | apply OLe.ite | intro _

def slices.IndexFunc_string_parse_parser_line_1.loop0.c (k : Nat) (s_ : List (List UInt8)) (b1_ : parse.parser) (s112 : slices.IndexFunc_string_parse_parser_line_1.S0) : Option (Unit ⊕ Int) := iterO (slices.IndexFunc_string_parse_parser_line_1.body0.c k s_ b1_) k s112

theorem slices.IndexFunc_string_parse_parser_line_1.loop0.c_le (k : Nat) (s_ : List (List UInt8)) (b1_ : parse.parser) (s112 : slices.IndexFunc_string_parse_parser_line_1.S0) : OLe (slices.IndexFunc_string_parse_parser_line_1.loop0.c k s_ b1_ s112) (slices.IndexFunc_string_parse_parser_line_1.loop0 s_ b1_ s112) := by
 unfold slices.IndexFunc_string_parse_parser_line_1.loop0.c slices.IndexFunc_string_parse_parser_line_1.loop0
 exact OLe.iter (fun s => slices.IndexFunc_string_parse_parser_line_1.body0.c_le k s_ b1_ s) k _

def slices.IndexFunc_string_parse_parser_line_1.c (k : Nat) (s_ : List (List UInt8)) (b1_ : parse.parser) : Option Int :=
 (slices.IndexFunc_string_parse_parser_line_1.loop0.c k s_ b1_ ⟨0⟩).bind fun s124 => onSum s124 (fun s91 =>
  some (-1)) fun s124x => some s124x

theorem slices.IndexFunc_string_parse_parser_line_1.c_le (k : Nat) (s_ : List (List UInt8)) (b1_ : parse.parser) : OLe (slices.IndexFunc_string_parse_parser_line_1.c k s_ b1_) (slices.IndexFunc_string_parse_parser_line_1 s_ b1_) := by
 unfold slices.IndexFunc_string_parse_parser_line_1.c slices.IndexFunc_string_parse_parser_line_1
 repeat' with_reducible first | exact OLe.refl _ | apply slices.IndexFunc_string_parse_parser_line_1.loop0.c_le | apply OLe.bind | apply OLe.need | apply OLe.letO | apply OLe.onSum | apply OLe.ite | intro _

def slices.ContainsFunc_string_parse_parser_line_1.c (k : Nat) (s_ : List (List UInt8)) (b1_ : parse.parser) : Option Bool :=
 (slices.IndexFunc_string_parse_parser_line_1.c k s_ b1_).bind fun r4 =>
 some (decide (0 ≤ r4))

theorem slices.ContainsFunc_string_parse_parser_line_1.c_le (k : Nat) (s_ : List (List UInt8)) (b1_ : parse.parser) : OLe (slices.ContainsFunc_string_parse_parser_line_1.c k s_ b1_) (slices.ContainsFunc_string_parse_parser_line_1 s_ b1_) := by
 unfold slices.ContainsFunc_string_parse_parser_line_1.c slices.ContainsFunc_string_parse_parser_line_1
 repeat' with_reducible first | exact OLe.refl _ | apply slices.IndexFunc_string_parse_parser_line_1.c_le | apply OLe.bind | apply OLe.need | apply OLe.letO | apply OLe.onSum | apply OLe.ite | intro _

def parse.parser.line.c (k : Nat) (p_ : parse.parser) : Option (Bool × parse.parser) :=
 (strings.IndexByte.c k p_.s 10).bind fun r36 =>
 letO (
  if r36 < 0 then
   if p_.l.Line < (p_.s.length : Int) then
    true
   else
    decide (p_.l.Line < r36)
  else
   decide (p_.l.Line < r36)) fun s39 =>
 if s39 = true then
  (parse.parser.dies.c k 6 p_).bind fun r44 =>
  some (r44.1, r44.2)
 else
  if r36 < 0 then
   some (false, p_)
  else
   need (InR 0 r36 p_.s.length) <|
   (strings.TrimSuffix.c k (sub p_.s 0 r36) [13]).bind fun r48 =>
   (line.Split.c k r48).bind fun r49 =>
   if (!r49.2) = true then
    (parse.parser.dies.c k 16 p_).bind fun r51 =>
    some (r51.1, r51.2)
   else
    if p_.l.Args < (r49.1.length : Int) then
     (parse.parser.dies.c k 7 p_).bind fun r54 =>
     some (r54.1, r54.2)
    else
     (slices.ContainsFunc_string_parse_parser_line_1.c k r49.1 p_).bind fun r57 =>
     if r57 = true then
      (parse.parser.dies.c k 6 p_).bind fun r60 =>
      some (r60.1, r60.2)
     else
      (parse.parser.past.c k (IntKind.wrap .i64 (r36 + 1)) p_).bind fun r63 =>
      (parse.parser.whole.c k r49.1 r63).bind fun r66 =>
      some (true, r66)

theorem parse.parser.line.c_le (k : Nat) (p_ : parse.parser) : OLe (parse.parser.line.c k p_) (parse.parser.line p_) := by
 unfold parse.parser.line.c parse.parser.line
 repeat' with_reducible first | exact OLe.refl _ | apply strings.IndexByte.c_le | apply parse.parser.dies.c_le | apply strings.TrimSuffix.c_le | apply line.Split.c_le | apply slices.ContainsFunc_string_parse_parser_line_1.c_le | apply parse.parser.past.c_le | apply parse.parser.whole.c_le | apply OLe.bind | apply OLe.need | apply OLe.letO | apply OLe.onSum | apply OLe.ite | intro _

def parse.parser.step.c (k : Nat) (p_ : parse.parser) : Option (Bool × parse.parser) :=
 if p_.in_.Body = true then
  (parse.parser.body.c k p_).bind fun r50 =>
  some (r50.1, r50.2)
 else
  if 0 < p_.in_.Left then
   (parse.parser.header.c k 36 p_.l.Bulk 6 p_).bind fun r53 =>
   letO (
    if r53.2.1 = true then
     (true, r53.1)
    else
     (r53.2.2.in_.Body, r53.2.2.in_.Need)) fun s57 =>
   some (r53.2.1, { r53.2.2 with in_ := { r53.2.2.in_ with Body := s57.1, Need := s57.2 } })
  else
   if p_.s = ([] : List UInt8) then
    some (false, p_)
   else
    need (InB 0 p_.s.length) <|
    if (bix p_.s 0) = 42 then
     (parse.parser.header.c k 42 p_.l.Args 7 p_).bind fun r65 =>
     letO (
      if r65.2.1 = true then
       r65.1
      else
       r65.2.2.in_.Left) fun s69 =>
     (
      letO (
       if r65.2.1 = true then
        decide (r65.1 = 0)
       else
        false) fun s87 =>
      if s87 = true then
       (parse.parser.whole.c k ([] : List (List UInt8)) { r65.2.2 with in_ := { r65.2.2.in_ with Left := s69 } }).bind fun r91 =>
       some (r91.in_.Rest, r91.in_.Args, r91.in_.Left, r91.in_.Size, r91.in_.Body, r91.in_.Need, r91.in_.Dead, r91.s, r91.l.Args, r91.l.Bulk, r91.l.Line, r91.out)
      else
       some (r65.2.2.in_.Rest, r65.2.2.in_.Args, s69, r65.2.2.in_.Size, r65.2.2.in_.Body, r65.2.2.in_.Need, r65.2.2.in_.Dead, r65.2.2.s, r65.2.2.l.Args, r65.2.2.l.Bulk, r65.2.2.l.Line, r65.2.2.out)).bind fun s81 =>
     some (r65.2.1, ({ in_ := ({ Rest := s81.1, Args := s81.2.1, Left := s81.2.2.1, Size := s81.2.2.2.1, Body := s81.2.2.2.2.1, Need := s81.2.2.2.2.2.1, Dead := s81.2.2.2.2.2.2.1 } : api.Input), s := s81.2.2.2.2.2.2.2.1, l := ({ Args := s81.2.2.2.2.2.2.2.2.1, Bulk := s81.2.2.2.2.2.2.2.2.2.1, Line := s81.2.2.2.2.2.2.2.2.2.2.1 } : api.Limits), out := s81.2.2.2.2.2.2.2.2.2.2.2 } : parse.parser))
    else
     (parse.parser.line.c k p_).bind fun r62 =>
     some (r62.1, r62.2)

theorem parse.parser.step.c_le (k : Nat) (p_ : parse.parser) : OLe (parse.parser.step.c k p_) (parse.parser.step p_) := by
 unfold parse.parser.step.c parse.parser.step
 repeat' with_reducible first | exact OLe.refl _ | apply parse.parser.body.c_le | apply parse.parser.header.c_le | apply parse.parser.whole.c_le | apply parse.parser.line.c_le | apply OLe.bind | apply OLe.need | apply OLe.letO | apply OLe.onSum | apply OLe.ite | intro _

def parse.Feed.body0.c (k : Nat) (in_ : api.Input) (l : api.Limits) (s115 : parse.Feed.S0) : Option (parse.Feed.S0 ⊕ ((List UInt8) × (List (List UInt8)) × Int × Int × Bool × Int × Int × (List UInt8) × Int × Int × Int × (List api.Request))) :=
 (parse.parser.step.c k ({ in_ := ({ Rest := s115.c, Args := s115.c2, Left := s115.c3, Size := s115.c4, Body := s115.c5, Need := s115.c6, Dead := s115.c7 } : api.Input), s := s115.c8, l := ({ Args := s115.c9, Bulk := s115.c10, Line := s115.c11 } : api.Limits), out := s115.c12 } : parse.parser)).bind fun r121 =>
 if r121.1 = true then
  some (.inl ⟨r121.2.in_.Rest, r121.2.in_.Args, r121.2.in_.Left, r121.2.in_.Size, r121.2.in_.Body, r121.2.in_.Need, r121.2.in_.Dead, r121.2.s, r121.2.l.Args, r121.2.l.Bulk, r121.2.l.Line, r121.2.out⟩)
 else
  some (.inr (r121.2.in_.Rest, r121.2.in_.Args, r121.2.in_.Left, r121.2.in_.Size, r121.2.in_.Body, r121.2.in_.Need, r121.2.in_.Dead, r121.2.s, r121.2.l.Args, r121.2.l.Bulk, r121.2.l.Line, r121.2.out))

theorem parse.Feed.body0.c_le (k : Nat) (in_ : api.Input) (l : api.Limits) (s115 : parse.Feed.S0) : OLe (parse.Feed.body0.c k in_ l s115) (parse.Feed.body0 in_ l s115) := by
 unfold parse.Feed.body0.c parse.Feed.body0
 repeat' with_reducible first | exact OLe.refl _ | apply parse.parser.step.c_le | apply OLe.bind | apply OLe.need | apply OLe.letO | apply OLe.onSum | apply OLe.ite | intro _

def parse.Feed.loop0.c (k : Nat) (in_ : api.Input) (l : api.Limits) (s115 : parse.Feed.S0) : Option ((List UInt8) × (List (List UInt8)) × Int × Int × Bool × Int × Int × (List UInt8) × Int × Int × Int × (List api.Request)) := iterO (parse.Feed.body0.c k in_ l) k s115

theorem parse.Feed.loop0.c_le (k : Nat) (in_ : api.Input) (l : api.Limits) (s115 : parse.Feed.S0) : OLe (parse.Feed.loop0.c k in_ l s115) (parse.Feed.loop0 in_ l s115) := by
 unfold parse.Feed.loop0.c parse.Feed.loop0
 exact OLe.iter (fun s => parse.Feed.body0.c_le k in_ l s) k _

def parse.Feed.c (k : Nat) (in_ : api.Input) (b : List UInt8) (l : api.Limits) : Option (api.Input × (List api.Request) × Int) :=
 if in_.Dead = 0 then
  need (in_.Rest.length + b.length ≤ 9223372036854775807) <|
  (parse.Limits.c k l).bind fun r69 =>
  (slices.Clone_string.c k in_.Args).bind fun r71 =>
  (parse.Feed.loop0.c k in_ l ⟨([] : List UInt8), r71, in_.Left, in_.Size, in_.Body, in_.Need, in_.Dead, in_.Rest ++ b, r69.Args, r69.Bulk, r69.Line, ([] : List api.Request)⟩).bind fun s97 =>
  (strings.Clone.c k s97.2.2.2.2.2.2.2.1).bind fun r126 =>
  some (({ Rest := r126, Args := s97.2.1, Left := s97.2.2.1, Size := s97.2.2.2.1, Body := s97.2.2.2.2.1, Need := s97.2.2.2.2.2.1, Dead := s97.2.2.2.2.2.2.1 } : api.Input), s97.2.2.2.2.2.2.2.2.2.2.2, s97.2.2.2.2.2.2.1)
 else
  some (({ Rest := ([] : List UInt8), Args := ([] : List (List UInt8)), Left := 0, Size := 0, Body := false, Need := 0, Dead := in_.Dead } : api.Input), ([] : List api.Request), in_.Dead)

theorem parse.Feed.c_le (k : Nat) (in_ : api.Input) (b : List UInt8) (l : api.Limits) : OLe (parse.Feed.c k in_ b l) (parse.Feed in_ b l) := by
 unfold parse.Feed.c parse.Feed
 repeat' with_reducible first | exact OLe.refl _ | apply parse.Limits.c_le | apply slices.Clone_string.c_le | apply parse.Feed.loop0.c_le | apply strings.Clone.c_le | apply OLe.bind | apply OLe.need | apply OLe.letO | apply OLe.onSum | apply OLe.ite | intro _

def parse.Idle.c (k : Nat) (in_ : api.Input) : Option Bool :=
 letO (
  if in_.Rest = ([] : List UInt8) then
   if in_.Size = 0 then
    decide (in_.Dead = 0)
   else
    false
  else
   false) fun s12 =>
 some s12

theorem parse.Idle.c_le (k : Nat) (in_ : api.Input) : OLe (parse.Idle.c k in_) (parse.Idle in_) := by
 unfold parse.Idle.c parse.Idle
 repeat' with_reducible first | exact OLe.refl _ | apply OLe.bind | apply OLe.need | apply OLe.letO | apply OLe.onSum | apply OLe.ite | intro _

def unit.read.body0.c (k : Nat) (r76 : api.Input × (List api.Request) × Int) (s121 : unit.read.S0) : Option (unit.read.S0 ⊕ (List (List (List UInt8)))) :=
 if s121.t22 < (r76.2.1.length : Int) then
  need (InB s121.t22 r76.2.1.length) <|
  need ((s121.c.length + [(ix r76.2.1 s121.t22).Args].length) * 24 ≤ 140737488355328) <|
  some (.inl ⟨IntKind.wrap .i64 (s121.t22 + 1), s121.c ++ [(ix r76.2.1 s121.t22).Args]⟩)
 else
  some (.inr s121.c)

theorem unit.read.body0.c_le (k : Nat) (r76 : api.Input × (List api.Request) × Int) (s121 : unit.read.S0) : OLe (unit.read.body0.c k r76 s121) (unit.read.body0 r76 s121) := by
 unfold unit.read.body0.c unit.read.body0
 repeat' with_reducible first | exact OLe.refl _ | apply OLe.bind | apply OLe.need | apply OLe.letO | apply OLe.onSum | apply OLe.ite | intro _

def unit.read.loop0.c (k : Nat) (r76 : api.Input × (List api.Request) × Int) (s121 : unit.read.S0) : Option (List (List (List UInt8))) := iterO (unit.read.body0.c k r76) k s121

theorem unit.read.loop0.c_le (k : Nat) (r76 : api.Input × (List api.Request) × Int) (s121 : unit.read.S0) : OLe (unit.read.loop0.c k r76 s121) (unit.read.loop0 r76 s121) := by
 unfold unit.read.loop0.c unit.read.loop0
 exact OLe.iter (fun s => unit.read.body0.c_le k r76 s) k _

def unit.read.c (k : Nat) (s_ : List UInt8) : Option (api.Unit × Bool) :=
 (parse.Feed.c k ({ Rest := ([] : List UInt8), Args := ([] : List (List UInt8)), Left := 0, Size := 0, Body := false, Need := 0, Dead := 0 } : api.Input) s_ ({ Args := 65536, Bulk := 1048576, Line := 1 } : api.Limits)).bind fun r76 =>
 (unit.read.loop0.c k r76 ⟨0, ([] : List (List (List UInt8)))⟩).bind fun s104 =>
 (
  (parse.Idle.c k r76.1).bind fun r138 =>
  if (!r138) = true then
   some true
  else
   (unit.may.c k ({ Cmds := s104 } : api.Unit)).bind fun r140 =>
   some (!r140)).bind fun s135 =>
 if s135 = true then
  some (({ Cmds := ([] : List (List (List UInt8))) } : api.Unit), false)
 else
  (unit.load.c k ({ Cmds := s104 } : api.Unit)).bind fun r141 =>
  letO (
   if (!r141.2) = true then
    true
   else
    (!decide (r141.1 = s_))) fun s143 =>
  if s143 = true then
   some (({ Cmds := ([] : List (List (List UInt8))) } : api.Unit), false)
  else
   some (({ Cmds := s104 } : api.Unit), true)

theorem unit.read.c_le (k : Nat) (s_ : List UInt8) : OLe (unit.read.c k s_) (unit.read s_) := by
 unfold unit.read.c unit.read
 repeat' with_reducible first | exact OLe.refl _ | apply parse.Feed.c_le | apply unit.read.loop0.c_le | apply parse.Idle.c_le | apply unit.may.c_le | apply unit.load.c_le | apply OLe.bind | apply OLe.need | apply OLe.letO | apply OLe.onSum | apply OLe.ite | intro _

def unit.Take.c (k : Nat) (s_ : List UInt8) : Option (api.Unit × Int × Int) :=
 if s_ = ([] : List UInt8) then
  some (({ Cmds := ([] : List (List (List UInt8))) } : api.Unit), 0, 4)
 else
  need (InB 0 s_.length) <|
  if (bix s_ 0) = 85 then
   if (s_.length : Int) < 5 then
    some (({ Cmds := ([] : List (List (List UInt8))) } : api.Unit), 0, 4)
   else
    need (InB 1 s_.length) <|
    need (InB 2 s_.length) <|
    letO (Go.bits .or .i64 (IntKind.wrap .i64 (bix s_ 1)) (IntKind.wrap .i64 ((IntKind.wrap .i64 (bix s_ 2)) * 2 ^ min (Int.toNat 8) (IntKind.bits .i64)))) fun x26 =>
    need (InB 3 s_.length) <|
    letO (Go.bits .or .i64 x26 (IntKind.wrap .i64 ((IntKind.wrap .i64 (bix s_ 3)) * 2 ^ min (Int.toNat 16) (IntKind.bits .i64)))) fun x28 =>
    need (InB 4 s_.length) <|
    letO (Go.bits .or .i64 x28 (IntKind.wrap .i64 ((IntKind.wrap .i64 (bix s_ 4)) * 2 ^ min (Int.toNat 24) (IntKind.bits .i64)))) fun x30 =>
    if 4194304 < x30 then
     some (({ Cmds := ([] : List (List (List UInt8))) } : api.Unit), 0, 6)
    else
     if (s_.length : Int) < (IntKind.wrap .i64 (x30 + 9)) then
      some (({ Cmds := ([] : List (List (List UInt8))) } : api.Unit), 0, 4)
     else
      need (InR 0 (IntKind.wrap .i64 (x30 + 9)) s_.length) <|
      (crc.Fits.c k (sub s_ 0 (IntKind.wrap .i64 (x30 + 9)))).bind fun r32 =>
      if (!r32) = true then
       some (({ Cmds := ([] : List (List (List UInt8))) } : api.Unit), 0, 14)
      else
       need (InR 5 (IntKind.wrap .i64 (5 + x30)) s_.length) <|
       (unit.read.c k (sub s_ 5 (IntKind.wrap .i64 (5 + x30)))).bind fun r34 =>
       if (!r34.2) = true then
        some (({ Cmds := ([] : List (List (List UInt8))) } : api.Unit), 0, 5)
       else
        some (r34.1, IntKind.wrap .i64 (x30 + 9), 0)
  else
   some (({ Cmds := ([] : List (List (List UInt8))) } : api.Unit), 0, 5)

theorem unit.Take.c_le (k : Nat) (s_ : List UInt8) : OLe (unit.Take.c k s_) (unit.Take s_) := by
 unfold unit.Take.c unit.Take
 repeat' with_reducible first | exact OLe.refl _ | apply crc.Fits.c_le | apply unit.read.c_le | apply OLe.bind | apply OLe.need | apply OLe.letO | apply OLe.onSum | apply OLe.ite | intro _

def unit.All.body0.c (k : Nat) (s_ : List UInt8) (s43 : unit.All.S0) : Option (unit.All.S0 ⊕ ((List api.Unit) × Int)) :=
 need (InR s43.at_ (s_.length : Int) s_.length) <|
 (unit.Take.c k (sub s_ s43.at_ (s_.length : Int))).bind fun r49 =>
 if r49.2.2 = 0 then
  need ((s43.l.length + [r49.1].length) * 24 ≤ 140737488355328) <|
  some (.inl ⟨s43.l ++ [r49.1], IntKind.wrap .i64 (s43.at_ + r49.2.1)⟩)
 else
  some (.inr (s43.l, s43.at_))

theorem unit.All.body0.c_le (k : Nat) (s_ : List UInt8) (s43 : unit.All.S0) : OLe (unit.All.body0.c k s_ s43) (unit.All.body0 s_ s43) := by
 unfold unit.All.body0.c unit.All.body0
 repeat' with_reducible first | exact OLe.refl _ | apply unit.Take.c_le | apply OLe.bind | apply OLe.need | apply OLe.letO | apply OLe.onSum | apply OLe.ite | intro _

def unit.All.loop0.c (k : Nat) (s_ : List UInt8) (s43 : unit.All.S0) : Option ((List api.Unit) × Int) := iterO (unit.All.body0.c k s_) k s43

theorem unit.All.loop0.c_le (k : Nat) (s_ : List UInt8) (s43 : unit.All.S0) : OLe (unit.All.loop0.c k s_ s43) (unit.All.loop0 s_ s43) := by
 unfold unit.All.loop0.c unit.All.loop0
 exact OLe.iter (fun s => unit.All.body0.c_le k s_ s) k _

def unit.All.c (k : Nat) (s_ : List UInt8) : Option ((List api.Unit) × Int) :=
 unit.All.loop0.c k s_ ⟨([] : List api.Unit), 0⟩

theorem unit.All.c_le (k : Nat) (s_ : List UInt8) : OLe (unit.All.c k s_) (unit.All s_) := by
 unfold unit.All.c unit.All
 repeat' with_reducible first | exact OLe.refl _ | apply unit.All.loop0.c_le | apply OLe.bind | apply OLe.need | apply OLe.letO | apply OLe.onSum | apply OLe.ite | intro _

def slices.Equal_string.body0.c (k : Nat) (s1_ : List (List UInt8)) (s2_ : List (List UInt8)) (s73 : slices.Equal_string.S0) : Option (slices.Equal_string.S0 ⊕ (Unit ⊕ Bool)) :=
 if s73.t13 < (s1_.length : Int) then
  need (InB s73.t13 s1_.length) <|
  need (InB s73.t13 s2_.length) <|
  if (ix s1_ s73.t13) = (ix s2_ s73.t13) then
   some (.inl ⟨IntKind.wrap .i64 (s73.t13 + 1)⟩)
  else
   some (.inr (.inr false))
 else
  some (.inr (.inl ()))

theorem slices.Equal_string.body0.c_le (k : Nat) (s1_ : List (List UInt8)) (s2_ : List (List UInt8)) (s73 : slices.Equal_string.S0) : OLe (slices.Equal_string.body0.c k s1_ s2_ s73) (slices.Equal_string.body0 s1_ s2_ s73) := by
 unfold slices.Equal_string.body0.c slices.Equal_string.body0
 repeat' with_reducible first | exact OLe.refl _ | apply OLe.bind | apply OLe.need | apply OLe.letO | apply OLe.onSum | apply OLe.ite | intro _

def slices.Equal_string.loop0.c (k : Nat) (s1_ : List (List UInt8)) (s2_ : List (List UInt8)) (s73 : slices.Equal_string.S0) : Option (Unit ⊕ Bool) := iterO (slices.Equal_string.body0.c k s1_ s2_) k s73

theorem slices.Equal_string.loop0.c_le (k : Nat) (s1_ : List (List UInt8)) (s2_ : List (List UInt8)) (s73 : slices.Equal_string.S0) : OLe (slices.Equal_string.loop0.c k s1_ s2_ s73) (slices.Equal_string.loop0 s1_ s2_ s73) := by
 unfold slices.Equal_string.loop0.c slices.Equal_string.loop0
 exact OLe.iter (fun s => slices.Equal_string.body0.c_le k s1_ s2_ s) k _

def slices.Equal_string.c (k : Nat) (s1_ : List (List UInt8)) (s2_ : List (List UInt8)) : Option Bool :=
 if (s1_.length : Int) = (s2_.length : Int) then
  (slices.Equal_string.loop0.c k s1_ s2_ ⟨0⟩).bind fun s81 => onSum s81 (fun s60 =>
   some true) fun s81x => some s81x
 else
  some false

theorem slices.Equal_string.c_le (k : Nat) (s1_ : List (List UInt8)) (s2_ : List (List UInt8)) : OLe (slices.Equal_string.c k s1_ s2_) (slices.Equal_string s1_ s2_) := by
 unfold slices.Equal_string.c slices.Equal_string
 repeat' with_reducible first | exact OLe.refl _ | apply slices.Equal_string.loop0.c_le | apply OLe.bind | apply OLe.need | apply OLe.letO | apply OLe.onSum | apply OLe.ite | intro _

def slices.EqualFunc_strings_slices_Equal_string.body0.c (k : Nat) (s1_ : List (List (List UInt8))) (s2_ : List (List (List UInt8))) (s84 : slices.EqualFunc_strings_slices_Equal_string.S0) : Option (slices.EqualFunc_strings_slices_Equal_string.S0 ⊕ (Unit ⊕ Bool)) :=
 if s84.t17 < (s1_.length : Int) then
  need (InB s84.t17 s1_.length) <|
  need (InB s84.t17 s2_.length) <|
  (slices.Equal_string.c k (ix s1_ s84.t17) (ix s2_ s84.t17)).bind fun r90 =>
  if (!r90) = true then
   some (.inr (.inr false))
  else
   some (.inl ⟨IntKind.wrap .i64 (s84.t17 + 1)⟩)
 else
  some (.inr (.inl ()))

theorem slices.EqualFunc_strings_slices_Equal_string.body0.c_le (k : Nat) (s1_ : List (List (List UInt8))) (s2_ : List (List (List UInt8))) (s84 : slices.EqualFunc_strings_slices_Equal_string.S0) : OLe (slices.EqualFunc_strings_slices_Equal_string.body0.c k s1_ s2_ s84) (slices.EqualFunc_strings_slices_Equal_string.body0 s1_ s2_ s84) := by
 unfold slices.EqualFunc_strings_slices_Equal_string.body0.c slices.EqualFunc_strings_slices_Equal_string.body0
 repeat' with_reducible first | exact OLe.refl _ | apply slices.Equal_string.c_le | apply OLe.bind | apply OLe.need | apply OLe.letO | apply OLe.onSum | apply OLe.ite | intro _

def slices.EqualFunc_strings_slices_Equal_string.loop0.c (k : Nat) (s1_ : List (List (List UInt8))) (s2_ : List (List (List UInt8))) (s84 : slices.EqualFunc_strings_slices_Equal_string.S0) : Option (Unit ⊕ Bool) := iterO (slices.EqualFunc_strings_slices_Equal_string.body0.c k s1_ s2_) k s84

theorem slices.EqualFunc_strings_slices_Equal_string.loop0.c_le (k : Nat) (s1_ : List (List (List UInt8))) (s2_ : List (List (List UInt8))) (s84 : slices.EqualFunc_strings_slices_Equal_string.S0) : OLe (slices.EqualFunc_strings_slices_Equal_string.loop0.c k s1_ s2_ s84) (slices.EqualFunc_strings_slices_Equal_string.loop0 s1_ s2_ s84) := by
 unfold slices.EqualFunc_strings_slices_Equal_string.loop0.c slices.EqualFunc_strings_slices_Equal_string.loop0
 exact OLe.iter (fun s => slices.EqualFunc_strings_slices_Equal_string.body0.c_le k s1_ s2_ s) k _

def slices.EqualFunc_strings_slices_Equal_string.c (k : Nat) (s1_ : List (List (List UInt8))) (s2_ : List (List (List UInt8))) : Option Bool :=
 if (s1_.length : Int) = (s2_.length : Int) then
  (slices.EqualFunc_strings_slices_Equal_string.loop0.c k s1_ s2_ ⟨0⟩).bind fun s93 => onSum s93 (fun s69 =>
   some true) fun s93x => some s93x
 else
  some false

theorem slices.EqualFunc_strings_slices_Equal_string.c_le (k : Nat) (s1_ : List (List (List UInt8))) (s2_ : List (List (List UInt8))) : OLe (slices.EqualFunc_strings_slices_Equal_string.c k s1_ s2_) (slices.EqualFunc_strings_slices_Equal_string s1_ s2_) := by
 unfold slices.EqualFunc_strings_slices_Equal_string.c slices.EqualFunc_strings_slices_Equal_string
 repeat' with_reducible first | exact OLe.refl _ | apply slices.EqualFunc_strings_slices_Equal_string.loop0.c_le | apply OLe.bind | apply OLe.need | apply OLe.letO | apply OLe.onSum | apply OLe.ite | intro _

def unit.Same.c (k : Nat) (a : api.Unit) (b : api.Unit) : Option Bool :=
 (slices.EqualFunc_strings_slices_Equal_string.c k a.Cmds b.Cmds).bind fun r6 =>
 some r6

theorem unit.Same.c_le (k : Nat) (a : api.Unit) (b : api.Unit) : OLe (unit.Same.c k a b) (unit.Same a b) := by
 unfold unit.Same.c unit.Same
 repeat' with_reducible first | exact OLe.refl _ | apply slices.EqualFunc_strings_slices_Equal_string.c_le | apply OLe.bind | apply OLe.need | apply OLe.letO | apply OLe.onSum | apply OLe.ite | intro _

def mewslaw15.alive.c (k : Nat)  : Option Bool :=
 (unit.Put.c k ({ Cmds := [[[80, 73, 78, 71]]] } : api.Unit)).bind fun r28 =>
 need (r28.1.length + [120].length ≤ 9223372036854775807) <|
 (unit.Take.c k (r28.1 ++ [120])).bind fun r30 =>
 need (r28.1.length + r28.1.length ≤ 9223372036854775807) <|
 need ((r28.1 ++ r28.1).length + [120].length ≤ 9223372036854775807) <|
 (unit.All.c k ((r28.1 ++ r28.1) ++ [120])).bind fun r34 =>
 (
  if (r28.1.length : Int) = 23 then
   if r28.2 = 0 then
    if r30.2.2 = 0 then
     if r30.2.1 = 23 then
      (unit.Same.c k ({ Cmds := [[[80, 73, 78, 71]]] } : api.Unit) r30.1).bind fun r50 =>
      if r50 = true then
       if (r34.1.length : Int) = 2 then
        some (decide (r34.2 = 46))
       else
        some false
      else
       some false
     else
      some false
    else
     some false
   else
    some false
  else
   some false).bind fun s43 =>
 some s43

theorem mewslaw15.alive.c_le (k : Nat)  : OLe (mewslaw15.alive.c k ) (mewslaw15.alive ) := by
 unfold mewslaw15.alive.c mewslaw15.alive
 repeat' with_reducible first | exact OLe.refl _ | apply unit.Put.c_le | apply unit.Take.c_le | apply unit.All.c_le | apply unit.Same.c_le | apply OLe.bind | apply OLe.need | apply OLe.letO | apply OLe.onSum | apply OLe.ite | intro _

end Go.Pu
