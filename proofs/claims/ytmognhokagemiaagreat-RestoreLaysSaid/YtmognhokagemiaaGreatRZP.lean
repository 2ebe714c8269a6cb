/- Printed by lift.py: the functions over data. -/
import Derived.Test.YtmognhokagemiaaGreatRZT
set_option maxRecDepth 100000
set_option maxHeartbeats 0
noncomputable section
namespace Go.Pu
open Go.Lift

structure mewslaw16.Far.S0 where
 n : Int
 t13 : Int

def mewslaw16.Far.body0 (d : api.Disk) (s138 : mewslaw16.Far.S0) : Option (mewslaw16.Far.S0 ⊕ (Int ⊕ Bool)) :=
 if s138.t13 < (d.Files.length : Int) then
  need (InB s138.t13 d.Files.length) <|
  letO (IntKind.wrap .i64 (s138.n + (IntKind.wrap .i64 ((if 10000 < ((ix d.Files s138.t13).Data.length : Int) then 10000 else ((ix d.Files s138.t13).Data.length : Int)) + (if 10000 < ((ix d.Files s138.t13).Name.length : Int) then 10000 else ((ix d.Files s138.t13).Name.length : Int)))))) fun x144 =>
  if 5000 < x144 then
   some (.inr (.inr true))
  else
   some (.inl ⟨x144, IntKind.wrap .i64 (s138.t13 + 1)⟩)
 else
  some (.inr (.inl s138.n))

def mewslaw16.Far.loop0 (d : api.Disk) (s138 : mewslaw16.Far.S0) : Option (Int ⊕ Bool) := whileO (mewslaw16.Far.body0 d) s138

structure mewslaw16.Far.S2 where
 n : Int
 t33 : Int

def mewslaw16.Far.body2 (l : List mewslaw16.Op) (s183 : mewslaw16.Far.S2) : Option (mewslaw16.Far.S2 ⊕ (Unit ⊕ Bool)) :=
 if s183.t33 < (l.length : Int) then
  need (InB s183.t33 l.length) <|
  letO (IntKind.wrap .i64 (s183.n + (IntKind.wrap .i64 ((if 10000 < ((ix l s183.t33).S.length : Int) then 10000 else ((ix l s183.t33).S.length : Int)) + (if 10000 < ((ix l s183.t33).Name.length : Int) then 10000 else ((ix l s183.t33).Name.length : Int)))))) fun x189 =>
  if 5000 < x189 then
   some (.inr (.inr true))
  else
   some (.inl ⟨x189, IntKind.wrap .i64 (s183.t33 + 1)⟩)
 else
  some (.inr (.inl ()))

def mewslaw16.Far.loop2 (l : List mewslaw16.Op) (s183 : mewslaw16.Far.S2) : Option (Unit ⊕ Bool) := whileO (mewslaw16.Far.body2 l) s183

def mewslaw16.Far (d : api.Disk) (l : List mewslaw16.Op) : Option Bool :=
 (mewslaw16.Far.loop0 d ⟨0, 0⟩).bind fun s200 => onSum s200 (fun s123 =>
  (mewslaw16.Far.loop2 l ⟨s123, 0⟩).bind fun s199 => onSum s199 (fun s168 =>
   letO (
    if 40 < (d.Files.length : Int) then
     true
    else
     if 100 < (d.Faults.length : Int) then
      true
     else
      decide (100 < (l.length : Int))) fun s194 =>
   some s194) fun s199x => some s199x) fun s200x => some s200x

def unit.may_1_1 (s_ : List UInt8) : Option Bool :=
 some (decide (1048576 < (s_.length : Int)))

structure slices.IndexFunc_string_unit_may_1_1.S0 where
 t8 : Int

def slices.IndexFunc_string_unit_may_1_1.body0 (s_ : List (List UInt8)) (s72 : slices.IndexFunc_string_unit_may_1_1.S0) : Option (slices.IndexFunc_string_unit_may_1_1.S0 ⊕ (Unit ⊕ Int)) :=
 if s72.t8 < (s_.length : Int) then
  need (InB s72.t8 s_.length) <|
  (unit.may_1_1 (ix s_ s72.t8)).bind fun r77 =>
  if r77 = true then
   some (.inr (.inr s72.t8))
  else
   some (.inl ⟨IntKind.wrap .i64 (s72.t8 + 1)⟩)
 else
  some (.inr (.inl ()))

def slices.IndexFunc_string_unit_may_1_1.loop0 (s_ : List (List UInt8)) (s72 : slices.IndexFunc_string_unit_may_1_1.S0) : Option (Unit ⊕ Int) := whileO (slices.IndexFunc_string_unit_may_1_1.body0 s_) s72

def slices.IndexFunc_string_unit_may_1_1 (s_ : List (List UInt8)) : Option Int :=
 (slices.IndexFunc_string_unit_may_1_1.loop0 s_ ⟨0⟩).bind fun s80 => onSum s80 (fun s59 =>
  some (-1)) fun s80x => some s80x

def slices.ContainsFunc_string_unit_may_1_1 (s_ : List (List UInt8)) : Option Bool :=
 (slices.IndexFunc_string_unit_may_1_1 s_).bind fun r2 =>
 some (decide (0 ≤ r2))

def unit.may_1 (c_ : List (List UInt8)) : Option Bool :=
 (
  if (c_.length : Int) = 0 then
   some true
  else
   if 65536 < (c_.length : Int) then
    some true
   else
    (slices.ContainsFunc_string_unit_may_1_1 c_).bind fun r18 =>
    some r18).bind fun s13 =>
 some s13

structure slices.IndexFunc_strings_unit_may_1.S0 where
 t8 : Int

def slices.IndexFunc_strings_unit_may_1.body0 (s_ : List (List (List UInt8))) (s72 : slices.IndexFunc_strings_unit_may_1.S0) : Option (slices.IndexFunc_strings_unit_may_1.S0 ⊕ (Unit ⊕ Int)) :=
 if s72.t8 < (s_.length : Int) then
  need (InB s72.t8 s_.length) <|
  (unit.may_1 (ix s_ s72.t8)).bind fun r77 =>
  if r77 = true then
   some (.inr (.inr s72.t8))
  else
   some (.inl ⟨IntKind.wrap .i64 (s72.t8 + 1)⟩)
 else
  some (.inr (.inl ()))

def slices.IndexFunc_strings_unit_may_1.loop0 (s_ : List (List (List UInt8))) (s72 : slices.IndexFunc_strings_unit_may_1.S0) : Option (Unit ⊕ Int) := whileO (slices.IndexFunc_strings_unit_may_1.body0 s_) s72

def slices.IndexFunc_strings_unit_may_1 (s_ : List (List (List UInt8))) : Option Int :=
 (slices.IndexFunc_strings_unit_may_1.loop0 s_ ⟨0⟩).bind fun s80 => onSum s80 (fun s59 =>
  some (-1)) fun s80x => some s80x

def slices.ContainsFunc_strings_unit_may_1 (s_ : List (List (List UInt8))) : Option Bool :=
 (slices.IndexFunc_strings_unit_may_1 s_).bind fun r2 =>
 some (decide (0 ≤ r2))

def unit.may (u_ : api.Unit) : Option Bool :=
 (
  if 0 < (u_.Cmds.length : Int) then
   if (u_.Cmds.length : Int) ≤ 4096 then
    (slices.ContainsFunc_strings_unit_may_1 u_.Cmds).bind fun r20 =>
    some (!r20)
   else
    some false
  else
   some false).bind fun s15 =>
 some s15

structure num.Text.S0 where
 at_ : Int
 u : Int
 v : List UInt8

def num.Text.body0  (s109 : num.Text.S0) : Option (num.Text.S0 ⊕ (Int × (List UInt8))) :=
 need (InB (IntKind.wrap .i64 (s109.at_ - 1)) 20) <|
 need (s109.v.length = 20) <|
 need (InB (IntKind.wrap .i64 (s109.at_ - 1)) s109.v.length) <|
 need (IsU8 (IntKind.wrap .u8 (IntKind.wrap .u64 (48 + (s109.u.tmod 10))))) <|
 if (IntKind.wrap .u64 (s109.u.tdiv 10)) = 0 then
  some (.inr (IntKind.wrap .i64 (s109.at_ - 1), upd s109.v (IntKind.wrap .i64 (s109.at_ - 1)) (u8 (IntKind.wrap .u8 (IntKind.wrap .u64 (48 + (s109.u.tmod 10)))))))
 else
  some (.inl ⟨IntKind.wrap .i64 (s109.at_ - 1), IntKind.wrap .u64 (s109.u.tdiv 10), upd s109.v (IntKind.wrap .i64 (s109.at_ - 1)) (u8 (IntKind.wrap .u8 (IntKind.wrap .u64 (48 + (s109.u.tmod 10)))))⟩)

def num.Text.loop0  (s109 : num.Text.S0) : Option (Int × (List UInt8)) := whileO (num.Text.body0 ) s109

def num.Text (n_ : Int) : Option (List UInt8) :=
 letO (
  if n_ < 0 then
   IntKind.wrap .u64 (0 - (IntKind.wrap .u64 n_))
  else
   IntKind.wrap .u64 n_) fun s69 =>
 (num.Text.loop0  ⟨20, s69, List.replicate 20 (0 : UInt8)⟩).bind fun s94 =>
 (
  if n_ < 0 then
   need (InB (IntKind.wrap .i64 (s94.1 - 1)) 20) <|
   need (s94.2.length = 20) <|
   need (InB (IntKind.wrap .i64 (s94.1 - 1)) s94.2.length) <|
   need (IsU8 45) <|
   some (IntKind.wrap .i64 (s94.1 - 1), upd s94.2 (IntKind.wrap .i64 (s94.1 - 1)) (u8 45))
  else
   some (s94.1, s94.2)).bind fun s123 =>
 need (InR s123.1 (s123.2.length : Int) s123.2.length) <|
 need (s123.2.length = 20) <|
 some (sub s123.2 s123.1 (s123.2.length : Int))

structure parse.Put.S0 where
 t14 : Int
 b : List UInt8

def parse.Put.body0 (args : List (List UInt8)) (s136 : parse.Put.S0) : Option (parse.Put.S0 ⊕ (List UInt8)) :=
 if s136.t14 < (args.length : Int) then
  need (InB s136.t14 args.length) <|
  (num.Text ((ix args s136.t14).length : Int)).bind fun r141 =>
  need ([36].length + r141.length ≤ 9223372036854775807) <|
  need (([36] ++ r141).length + [13, 10].length ≤ 9223372036854775807) <|
  need ((([36] ++ r141) ++ [13, 10]).length + (ix args s136.t14).length ≤ 9223372036854775807) <|
  letO ((([36] ++ r141) ++ [13, 10]) ++ (ix args s136.t14)) fun x145 =>
  need (x145.length + [13, 10].length ≤ 9223372036854775807) <|
  need (s136.b.length + (x145 ++ [13, 10]).length ≤ 140737488355328) <|
  some (.inl ⟨IntKind.wrap .i64 (s136.t14 + 1), s136.b ++ (x145 ++ [13, 10])⟩)
 else
  some (.inr s136.b)

def parse.Put.loop0 (args : List (List UInt8)) (s136 : parse.Put.S0) : Option (List UInt8) := whileO (parse.Put.body0 args) s136

def parse.Put (args : List (List UInt8)) : Option (List UInt8) :=
 (num.Text (args.length : Int)).bind fun r76 =>
 need ([42].length + r76.length ≤ 9223372036854775807) <|
 need (([42] ++ r76).length + [13, 10].length ≤ 9223372036854775807) <|
 need (([] : List UInt8).length + (([42] ++ r76) ++ [13, 10]).length ≤ 140737488355328) <|
 (parse.Put.loop0 args ⟨0, ([] : List UInt8) ++ (([42] ++ r76) ++ [13, 10])⟩).bind fun s113 =>
 some s113

structure unit.load.S0 where
 t13 : Int
 b : List UInt8

structure unit.load.S2 where
 n : Int
 t19 : Int

def unit.load.body2 (u_ : api.Unit) (s461 : unit.load.S0) (s492 : unit.load.S2) : Option (unit.load.S2 ⊕ (Unit ⊕ (unit.load.S0 ⊕ ((List UInt8) ⊕ ((List UInt8) × Bool))))) :=
 if s492.t19 < ((ix u_.Cmds s461.t13).length : Int) then
  need (InB s492.t19 (ix u_.Cmds s461.t13).length) <|
  if 4194304 < (IntKind.wrap .i64 (s492.n + ((ix (ix u_.Cmds s461.t13) s492.t19).length : Int))) then
   some (.inr (.inr (.inr (.inr (([] : List UInt8), false)))))
  else
   some (.inl ⟨IntKind.wrap .i64 (s492.n + ((ix (ix u_.Cmds s461.t13) s492.t19).length : Int)), IntKind.wrap .i64 (s492.t19 + 1)⟩)
 else
  some (.inr (.inl ()))

def unit.load.loop2 (u_ : api.Unit) (s461 : unit.load.S0) (s492 : unit.load.S2) : Option (Unit ⊕ (unit.load.S0 ⊕ ((List UInt8) ⊕ ((List UInt8) × Bool)))) := whileO (unit.load.body2 u_ s461) s492

def unit.load.body0 (u_ : api.Unit) (s461 : unit.load.S0) : Option (unit.load.S0 ⊕ ((List UInt8) ⊕ ((List UInt8) × Bool))) :=
 if s461.t13 < (u_.Cmds.length : Int) then
  need (InB s461.t13 u_.Cmds.length) <|
  (unit.load.loop2 u_ s461 ⟨0, 0⟩).bind fun s502 => onSum s502 (fun s481 =>
   (parse.Put (ix u_.Cmds s461.t13)).bind fun r499 =>
   need (s461.b.length + r499.length ≤ 140737488355328) <|
   if 4194304 < ((s461.b ++ r499).length : Int) then
    some (.inr (.inr (([] : List UInt8), false)))
   else
    some (.inl ⟨IntKind.wrap .i64 (s461.t13 + 1), s461.b ++ r499⟩)) fun s502x => some s502x
 else
  some (.inr (.inl s461.b))

def unit.load.loop0 (u_ : api.Unit) (s461 : unit.load.S0) : Option ((List UInt8) ⊕ ((List UInt8) × Bool)) := whileO (unit.load.body0 u_) s461

def unit.load (u_ : api.Unit) : Option ((List UInt8) × Bool) :=
 (unit.load.loop0 u_ ⟨0, ([] : List UInt8)⟩).bind fun s504 => onSum s504 (fun s378 =>
  some (s378, true)) fun s504x => some s504x

def unit.four (n_ : Int) : Option (List UInt8) :=
 need (IsU8 (IntKind.wrap .u8 n_)) <|
 need (IsU8 (IntKind.wrap .u8 (n_ / 2 ^ min (Int.toNat 8) (IntKind.bits .u32)))) <|
 need (IsU8 (IntKind.wrap .u8 (n_ / 2 ^ min (Int.toNat 16) (IntKind.bits .u32)))) <|
 need (IsU8 (IntKind.wrap .u8 (n_ / 2 ^ min (Int.toNat 24) (IntKind.bits .u32)))) <|
 some [u8 (IntKind.wrap .u8 n_), u8 (IntKind.wrap .u8 (n_ / 2 ^ min (Int.toNat 8) (IntKind.bits .u32))), u8 (IntKind.wrap .u8 (n_ / 2 ^ min (Int.toNat 16) (IntKind.bits .u32))), u8 (IntKind.wrap .u8 (n_ / 2 ^ min (Int.toNat 24) (IntKind.bits .u32)))]

structure crc.Byte.S0 where
 n : Int
 t9 : Int

def crc.Byte.body0  (s53 : crc.Byte.S0) : Option (crc.Byte.S0 ⊕ Int) :=
 if s53.t9 < 8 then
  letO (Go.bits .xor .u32 (s53.n / 2 ^ min (Int.toNat 1) (IntKind.bits .u32)) (Go.bits .and .u32 3988292384 (IntKind.wrap .u32 (0 - (Go.bits .and .u32 s53.n 1))))) fun x57 =>
  some (.inl ⟨x57, IntKind.wrap .i64 (s53.t9 + 1)⟩)
 else
  some (.inr s53.n)

def crc.Byte.loop0  (s53 : crc.Byte.S0) : Option Int := whileO (crc.Byte.body0 ) s53

def crc.Byte (n_ : Int) (b : Int) : Option Int :=
 (crc.Byte.loop0  ⟨Go.bits .xor .u32 n_ (IntKind.wrap .u32 b), 0⟩).bind fun s43 =>
 some s43

structure crc.More.S0 where
 n : Int
 t8 : Int

def crc.More.body0 (s_ : List UInt8) (s60 : crc.More.S0) : Option (crc.More.S0 ⊕ Int) :=
 if s60.t8 < (s_.length : Int) then
  need (InB s60.t8 s_.length) <|
  (crc.Byte s60.n (bix s_ s60.t8)).bind fun r65 =>
  some (.inl ⟨r65, IntKind.wrap .i64 (s60.t8 + 1)⟩)
 else
  some (.inr s60.n)

def crc.More.loop0 (s_ : List UInt8) (s60 : crc.More.S0) : Option Int := whileO (crc.More.body0 s_) s60

def crc.More (n_ : Int) (s_ : List UInt8) : Option Int :=
 (crc.More.loop0 s_ ⟨n_, 0⟩).bind fun s49 =>
 some s49

structure crc.Of.S0 where
 n : Int
 t8 : Int

def crc.Of.body0 (parts : List (List UInt8)) (s60 : crc.Of.S0) : Option (crc.Of.S0 ⊕ Int) :=
 if s60.t8 < (parts.length : Int) then
  need (InB s60.t8 parts.length) <|
  (crc.More s60.n (ix parts s60.t8)).bind fun r65 =>
  some (.inl ⟨r65, IntKind.wrap .i64 (s60.t8 + 1)⟩)
 else
  some (.inr s60.n)

def crc.Of.loop0 (parts : List (List UInt8)) (s60 : crc.Of.S0) : Option Int := whileO (crc.Of.body0 parts) s60

def crc.Of (parts : List (List UInt8)) : Option Int :=
 (crc.Of.loop0 parts ⟨4294967295, 0⟩).bind fun s49 =>
 some (Go.bits .xor .u32 (if IntKind.signed .u32 then -1 else IntKind.max .u32) s49)

def crc.Seal (s_ : List UInt8) : Option (List UInt8) :=
 (crc.Of [s_]).bind fun r8 =>
 need (IsU8 (IntKind.wrap .u8 r8)) <|
 need (IsU8 (IntKind.wrap .u8 (r8 / 2 ^ min (Int.toNat 8) (IntKind.bits .u32)))) <|
 need (IsU8 (IntKind.wrap .u8 (r8 / 2 ^ min (Int.toNat 16) (IntKind.bits .u32)))) <|
 need (IsU8 (IntKind.wrap .u8 (r8 / 2 ^ min (Int.toNat 24) (IntKind.bits .u32)))) <|
 need (s_.length + [u8 (IntKind.wrap .u8 r8), u8 (IntKind.wrap .u8 (r8 / 2 ^ min (Int.toNat 8) (IntKind.bits .u32))), u8 (IntKind.wrap .u8 (r8 / 2 ^ min (Int.toNat 16) (IntKind.bits .u32))), u8 (IntKind.wrap .u8 (r8 / 2 ^ min (Int.toNat 24) (IntKind.bits .u32)))].length ≤ 9223372036854775807) <|
 letO (s_ ++ [u8 (IntKind.wrap .u8 r8), u8 (IntKind.wrap .u8 (r8 / 2 ^ min (Int.toNat 8) (IntKind.bits .u32))), u8 (IntKind.wrap .u8 (r8 / 2 ^ min (Int.toNat 16) (IntKind.bits .u32))), u8 (IntKind.wrap .u8 (r8 / 2 ^ min (Int.toNat 24) (IntKind.bits .u32)))]) fun x14 =>
 some x14

def unit.Put (u_ : api.Unit) : Option ((List UInt8) × Int) :=
 (unit.may u_).bind fun r11 =>
 if (!r11) = true then
  some (([] : List UInt8), 1)
 else
  (unit.load u_).bind fun r12 =>
  if (!r12.2) = true then
   some (([] : List UInt8), 6)
  else
   (unit.four (IntKind.wrap .u32 (r12.1.length : Int))).bind fun r13 =>
   need ([85].length + r13.length ≤ 9223372036854775807) <|
   need (([85] ++ r13).length + r12.1.length ≤ 9223372036854775807) <|
   (crc.Seal (([85] ++ r13) ++ r12.1)).bind fun r16 =>
   some (r16, 0)

def restore.Other (name : List UInt8) : Option (List UInt8) :=
 need (name.length + [46, 110, 101, 119].length ≤ 9223372036854775807) <|
 some (name ++ [46, 110, 101, 119])

def slices.Clone_api_File (s : List api.File) : Option (List api.File) :=
 need ((([] : List api.File).length + s.length) * 40 ≤ 140737488355328) <|
 some s

def slices.Clone_api_Fault (s : List api.Fault) : Option (List api.Fault) :=
 need ((([] : List api.Fault).length + s.length) * 32 ≤ 140737488355328) <|
 some s

def disk.own (d : api.Disk) : Option api.Disk :=
 (slices.Clone_api_File d.Files).bind fun r9 =>
 (slices.Clone_api_Fault d.Faults).bind fun r11 =>
 some ({ Files := r9, Faults := r11 } : api.Disk)

def disk.Remove_1 (f : api.File) (a1_ : List UInt8) : Option Bool :=
 some (decide (f.Name = a1_))

structure slices.IndexFunc_api_File_v_disk_Remove_1.S0 where
 t8 : Int

def slices.IndexFunc_api_File_v_disk_Remove_1.body0 (s_ : List api.File) (b1_ : List UInt8) (s83 : slices.IndexFunc_api_File_v_disk_Remove_1.S0) : Option (slices.IndexFunc_api_File_v_disk_Remove_1.S0 ⊕ (Unit ⊕ Int)) :=
 if s83.t8 < (s_.length : Int) then
  need (InB s83.t8 s_.length) <|
  need (InB s83.t8 s_.length) <|
  (disk.Remove_1 (ix s_ s83.t8) b1_).bind fun r89 =>
  if r89 = true then
   some (.inr (.inr s83.t8))
  else
   some (.inl ⟨IntKind.wrap .i64 (s83.t8 + 1)⟩)
 else
  some (.inr (.inl ()))

def slices.IndexFunc_api_File_v_disk_Remove_1.loop0 (s_ : List api.File) (b1_ : List UInt8) (s83 : slices.IndexFunc_api_File_v_disk_Remove_1.S0) : Option (Unit ⊕ Int) := whileO (slices.IndexFunc_api_File_v_disk_Remove_1.body0 s_ b1_) s83

def slices.IndexFunc_api_File_v_disk_Remove_1 (s_ : List api.File) (b1_ : List UInt8) : Option Int :=
 (slices.IndexFunc_api_File_v_disk_Remove_1.loop0 s_ b1_ ⟨0⟩).bind fun s92 => onSum s92 (fun s68 =>
  some (-1)) fun s92x => some s92x

structure slices.DeleteFunc_api_File_v_disk_Remove_1.S0 where
 i : Int
 j : Int
 v : List api.File

def slices.DeleteFunc_api_File_v_disk_Remove_1.body0 (b1_ : List UInt8) (s231 : slices.DeleteFunc_api_File_v_disk_Remove_1.S0) : Option (slices.DeleteFunc_api_File_v_disk_Remove_1.S0 ⊕ (Int × (List api.File))) :=
 if s231.j < (s231.v.length : Int) then
  (
   need (InB s231.j s231.v.length) <|
   need (InB s231.j s231.v.length) <|
   (disk.Remove_1 (ix s231.v s231.j) b1_).bind fun r248 =>
   if (!r248) = true then
    need (InB s231.i s231.v.length) <|
    need (InB s231.i s231.v.length) <|
    some (IntKind.wrap .i64 (s231.i + 1), upd s231.v s231.i (ix s231.v s231.j))
   else
    some (s231.i, s231.v)).bind fun s242 =>
  some (.inl ⟨s242.1, IntKind.wrap .i64 (s231.j + 1), s242.2⟩)
 else
  some (.inr (s231.i, s231.v))

def slices.DeleteFunc_api_File_v_disk_Remove_1.loop0 (b1_ : List UInt8) (s231 : slices.DeleteFunc_api_File_v_disk_Remove_1.S0) : Option (Int × (List api.File)) := whileO (slices.DeleteFunc_api_File_v_disk_Remove_1.body0 b1_) s231

def slices.DeleteFunc_api_File_v_disk_Remove_1 (s_ : List api.File) (b1_ : List UInt8) : Option (List api.File) :=
 (slices.IndexFunc_api_File_v_disk_Remove_1 s_ b1_).bind fun r129 =>
 if r129 = (-1) then
  some s_
 else
  (slices.DeleteFunc_api_File_v_disk_Remove_1.loop0 b1_ ⟨r129, IntKind.wrap .i64 (r129 + 1), s_⟩).bind fun s190 =>
  need (InR s190.1 (s190.2.length : Int) s190.2.length) <|
  need (InP s190.1 (s190.2.length : Int) s190.2.length) <|
  need (InR 0 s190.1 (clrL s190.2 (Int.toNat s190.1) (Int.toNat (s190.2.length : Int)) (({ Name := ([] : List UInt8), Data := ([] : List UInt8), Synced := 0 } : api.File) : api.File)).length) <|
  need (0 ≤ s190.1 ∧ s190.1 ≤ ((clrL s190.2 (Int.toNat s190.1) (Int.toNat (s190.2.length : Int)) (({ Name := ([] : List UInt8), Data := ([] : List UInt8), Synced := 0 } : api.File) : api.File)).length : Int)) <|
  some (List.take (Int.toNat s190.1) (clrL s190.2 (Int.toNat s190.1) (Int.toNat (s190.2.length : Int)) (({ Name := ([] : List UInt8), Data := ([] : List UInt8), Synced := 0 } : api.File) : api.File)))

def disk.Remove (d : api.Disk) (name : List UInt8) : Option api.Disk :=
 (disk.own d).bind fun r12 =>
 (slices.DeleteFunc_api_File_v_disk_Remove_1 r12.Files name).bind fun r15 =>
 some { r12 with Files := r15 }

def disk.find_1 (f : api.File) (a1_ : List UInt8) : Option Bool :=
 some (decide (f.Name = a1_))

structure slices.IndexFunc_api_File_disk_find_1.S0 where
 t8 : Int

def slices.IndexFunc_api_File_disk_find_1.body0 (s_ : List api.File) (b0_ : List UInt8) (s72 : slices.IndexFunc_api_File_disk_find_1.S0) : Option (slices.IndexFunc_api_File_disk_find_1.S0 ⊕ (Unit ⊕ Int)) :=
 if s72.t8 < (s_.length : Int) then
  need (InB s72.t8 s_.length) <|
  (disk.find_1 (ix s_ s72.t8) b0_).bind fun r77 =>
  if r77 = true then
   some (.inr (.inr s72.t8))
  else
   some (.inl ⟨IntKind.wrap .i64 (s72.t8 + 1)⟩)
 else
  some (.inr (.inl ()))

def slices.IndexFunc_api_File_disk_find_1.loop0 (s_ : List api.File) (b0_ : List UInt8) (s72 : slices.IndexFunc_api_File_disk_find_1.S0) : Option (Unit ⊕ Int) := whileO (slices.IndexFunc_api_File_disk_find_1.body0 s_ b0_) s72

def slices.IndexFunc_api_File_disk_find_1 (s_ : List api.File) (b0_ : List UInt8) : Option Int :=
 (slices.IndexFunc_api_File_disk_find_1.loop0 s_ b0_ ⟨0⟩).bind fun s80 => onSum s80 (fun s59 =>
  some (-1)) fun s80x => some s80x

def disk.find (d : api.Disk) (name : List UInt8) : Option Int :=
 (slices.IndexFunc_api_File_disk_find_1 d.Files name).bind fun r6 =>
 some r6

def disk.Read (d : api.Disk) (name : List UInt8) : Option ((List UInt8) × Int) :=
 (disk.find d name).bind fun r6 =>
 if r6 < 0 then
  some (([] : List UInt8), 8)
 else
  need (InB r6 d.Files.length) <|
  some ((ix d.Files r6).Data, 0)

def crc.Fits (s_ : List UInt8) : Option Bool :=
 (
  if 4 ≤ (s_.length : Int) then
   need (InR 0 (IntKind.wrap .i64 ((s_.length : Int) - 4)) s_.length) <|
   (crc.Seal (sub s_ 0 (IntKind.wrap .i64 ((s_.length : Int) - 4)))).bind fun r18 =>
   some (decide (r18 = s_))
  else
   some false).bind fun s13 =>
 some s13

def parse.Limits (l : api.Limits) : Option api.Limits :=
 some ({ Args := if 65536 < (if l.Args < 1 then 1 else l.Args) then 65536 else (if l.Args < 1 then 1 else l.Args), Bulk := if 1048576 < (if l.Bulk < 1 then 1 else l.Bulk) then 1048576 else (if l.Bulk < 1 then 1 else l.Bulk), Line := if 65536 < (if l.Line < 1 then 1 else l.Line) then 65536 else (if l.Line < 1 then 1 else l.Line) } : api.Limits)

def slices.Clone_string (s : List (List UInt8)) : Option (List (List UInt8)) :=
 need ((([] : List (List UInt8)).length + s.length) * 16 ≤ 140737488355328) <|
 some s

def parse.parser.dies (e : Int) (p_ : parse.parser) : Option (Bool × parse.parser) :=
 some (false, { p_ with in_ := ({ Rest := ([] : List UInt8), Args := ([] : List (List UInt8)), Left := 0, Size := 0, Body := false, Need := 0, Dead := e } : api.Input), s := ([] : List UInt8) })

def stringslite.Clone (s : List UInt8) : Option (List UInt8) :=
 need (s.length ≤ 281474976710656) <|
 some s

def strings.Clone (s_ : List UInt8) : Option (List UInt8) :=
 (stringslite.Clone s_).bind fun r2 =>
 some r2

def parse.parser.past (n_ : Int) (p_ : parse.parser) : Option parse.parser :=
 need (InR n_ (p_.s.length : Int) p_.s.length) <|
 some { p_ with in_ := { p_.in_ with Size := IntKind.wrap .i64 (p_.in_.Size + n_) }, s := sub p_.s n_ (p_.s.length : Int) }

def parse.parser.whole (args : List (List UInt8)) (p_ : parse.parser) : Option parse.parser :=
 (
  if 0 < (args.length : Int) then
   need ((p_.out.length + [({ Args := args, Size := p_.in_.Size } : api.Request)].length) * 32 ≤ 140737488355328) <|
   some (p_.out ++ [({ Args := args, Size := p_.in_.Size } : api.Request)])
  else
   some p_.out).bind fun s14 =>
 some { p_ with in_ := ({ Rest := ([] : List UInt8), Args := ([] : List (List UInt8)), Left := 0, Size := 0, Body := false, Need := 0, Dead := 0 } : api.Input), out := s14 }

structure parse.parser.body.S0 where
 t11 : Int

def parse.parser.body.body0 (p_ : parse.parser) (s124 : parse.parser.body.S0) : Option (parse.parser.body.S0 ⊕ (Unit ⊕ (Bool × parse.parser))) :=
 if s124.t11 < 2 then
  if (IntKind.wrap .i64 ((p_.s.length : Int) - (if p_.in_.Need < 0 then 0 else p_.in_.Need))) ≤ s124.t11 then
   some (.inr (.inr (false, p_)))
  else
   need (InB (IntKind.wrap .i64 ((if p_.in_.Need < 0 then 0 else p_.in_.Need) + s124.t11)) p_.s.length) <|
   need (InB s124.t11 [13, 10].length) <|
   if (bix p_.s (IntKind.wrap .i64 ((if p_.in_.Need < 0 then 0 else p_.in_.Need) + s124.t11))) = (bix [13, 10] s124.t11) then
    some (.inl ⟨IntKind.wrap .i64 (s124.t11 + 1)⟩)
   else
    (parse.parser.dies 5 p_).bind fun r130 =>
    some (.inr (.inr (r130.1, r130.2)))
 else
  some (.inr (.inl ()))

def parse.parser.body.loop0 (p_ : parse.parser) (s124 : parse.parser.body.S0) : Option (Unit ⊕ (Bool × parse.parser)) := whileO (parse.parser.body.body0 p_) s124

def parse.parser.body (p_ : parse.parser) : Option (Bool × parse.parser) :=
 (parse.parser.body.loop0 p_ ⟨0⟩).bind fun s155 => onSum s155 (fun s105 =>
  need (InR 0 (if p_.in_.Need < 0 then 0 else p_.in_.Need) p_.s.length) <|
  (strings.Clone (sub p_.s 0 (if p_.in_.Need < 0 then 0 else p_.in_.Need))).bind fun r137 =>
  need ((p_.in_.Args.length + [r137].length) * 16 ≤ 140737488355328) <|
  (parse.parser.past (IntKind.wrap .i64 ((if p_.in_.Need < 0 then 0 else p_.in_.Need) + 2)) { p_ with in_ := ({ Rest := p_.in_.Rest, Args := p_.in_.Args ++ [r137], Left := IntKind.wrap .i64 (p_.in_.Left - 1), Size := p_.in_.Size, Body := false, Need := 0, Dead := p_.in_.Dead } : api.Input) }).bind fun r140 =>
  (
   if r140.in_.Left = 0 then
    (parse.parser.whole r140.in_.Args r140).bind fun r151 =>
    some (r151.in_.Rest, r151.in_.Args, r151.in_.Left, r151.in_.Size, r151.in_.Body, r151.in_.Need, r151.in_.Dead, r151.s, r151.l.Args, r151.l.Bulk, r151.l.Line, r151.out)
   else
    some (r140.in_.Rest, r140.in_.Args, r140.in_.Left, r140.in_.Size, r140.in_.Body, r140.in_.Need, r140.in_.Dead, r140.s, r140.l.Args, r140.l.Bulk, r140.l.Line, r140.out)).bind fun s146 =>
  some (true, ({ in_ := ({ Rest := s146.1, Args := s146.2.1, Left := s146.2.2.1, Size := s146.2.2.2.1, Body := s146.2.2.2.2.1, Need := s146.2.2.2.2.2.1, Dead := s146.2.2.2.2.2.2.1 } : api.Input), s := s146.2.2.2.2.2.2.2.1, l := ({ Args := s146.2.2.2.2.2.2.2.2.1, Bulk := s146.2.2.2.2.2.2.2.2.2.1, Line := s146.2.2.2.2.2.2.2.2.2.2.1 } : api.Limits), out := s146.2.2.2.2.2.2.2.2.2.2.2 } : parse.parser))) fun s155x => some s155x

structure parse.parser.header.S0 where
 n : Int
 i : Int

def parse.parser.header.body0 (p_ : parse.parser) (most : Int) (over : Int) (s389 : parse.parser.header.S0) : Option (parse.parser.header.S0 ⊕ (Unit ⊕ (Int × Bool × parse.parser))) :=
 if s389.i < (p_.s.length : Int) then
  need (InB s389.i p_.s.length) <|
  letO (
   if (bix p_.s s389.i) = 13 then
    decide (1 < s389.i)
   else
    false) fun s395 =>
  if s395 = true then
   if (IntKind.wrap .i64 (s389.i + 1)) = (p_.s.length : Int) then
    some (.inr (.inr (0, false, p_)))
   else
    need (InB (IntKind.wrap .i64 (s389.i + 1)) p_.s.length) <|
    if (bix p_.s (IntKind.wrap .i64 (s389.i + 1))) = 10 then
     (parse.parser.past (IntKind.wrap .i64 (s389.i + 2)) p_).bind fun r403 =>
     some (.inr (.inr (s389.n, true, r403)))
    else
     (parse.parser.dies 5 p_).bind fun r400 =>
     some (.inr (.inr (0, r400.1, r400.2)))
  else
   letO (
    if (bix p_.s s389.i) < 48 then
     true
    else
     if 57 < (bix p_.s s389.i) then
      true
     else
      if 1 < s389.i then
       decide (s389.n = 0)
      else
       false) fun s411 =>
   if s411 = true then
    (parse.parser.dies 5 p_).bind fun r417 =>
    some (.inr (.inr (0, r417.1, r417.2)))
   else
    letO (IntKind.wrap .i64 ((IntKind.wrap .i64 (10 * s389.n)) + (IntKind.wrap .i64 (IntKind.wrap .u8 ((bix p_.s s389.i) - 48))))) fun x420 =>
    if most < x420 then
     (parse.parser.dies over p_).bind fun r421 =>
     some (.inr (.inr (0, r421.1, r421.2)))
    else
     some (.inl ⟨x420, IntKind.wrap .i64 (s389.i + 1)⟩)
 else
  some (.inr (.inl ()))

def parse.parser.header.loop0 (p_ : parse.parser) (most : Int) (over : Int) (s389 : parse.parser.header.S0) : Option (Unit ⊕ (Int × Bool × parse.parser)) := whileO (parse.parser.header.body0 p_ most over) s389

def parse.parser.header (mark : Int) (most : Int) (over : Int) (p_ : parse.parser) : Option (Int × Bool × parse.parser) :=
 if p_.s = ([] : List UInt8) then
  some (0, false, p_)
 else
  need (InB 0 p_.s.length) <|
  if (bix p_.s 0) = mark then
   (parse.parser.header.loop0 p_ most over ⟨0, 1⟩).bind fun s428 => onSum s428 (fun s320 =>
    some (0, false, p_)) fun s428x => some s428x
  else
   (parse.parser.dies 5 p_).bind fun r215 =>
   some (0, r215.1, r215.2)

def stringslite.IndexByte (s_ : List UInt8) (c_ : Int) : Option Int :=
 some (Lib.indexByte s_ (u8 c_))

def strings.IndexByte (s_ : List UInt8) (c_ : Int) : Option Int :=
 (stringslite.IndexByte s_ c_).bind fun r2 =>
 some r2

def stringslite.HasSuffix (s_ : List UInt8) (suffix : List UInt8) : Option Bool :=
 (
  if (suffix.length : Int) ≤ (s_.length : Int) then
   need (InR (IntKind.wrap .i64 ((s_.length : Int) - (suffix.length : Int))) (s_.length : Int) s_.length) <|
   some (decide ((sub s_ (IntKind.wrap .i64 ((s_.length : Int) - (suffix.length : Int))) (s_.length : Int)) = suffix))
  else
   some false).bind fun s10 =>
 some s10

def stringslite.TrimSuffix (s_ : List UInt8) (suffix : List UInt8) : Option (List UInt8) :=
 (stringslite.HasSuffix s_ suffix).bind fun r4 =>
 if r4 = true then
  need (InR 0 (IntKind.wrap .i64 ((s_.length : Int) - (suffix.length : Int))) s_.length) <|
  some (sub s_ 0 (IntKind.wrap .i64 ((s_.length : Int) - (suffix.length : Int))))
 else
  some s_

def strings.TrimSuffix (s_ : List UInt8) (suffix : List UInt8) : Option (List UInt8) :=
 (stringslite.TrimSuffix s_ suffix).bind fun r2 =>
 some r2

def line.blank (c_ : Int) : Option Bool :=
 letO (
  if c_ = 32 then
   true
  else
   decide (c_ = 9)) fun s7 =>
 some s7

def line.quoted_1 (i : Int) (a1_ : List UInt8) : Option Bool :=
 (
  if i = (a1_.length : Int) then
   some true
  else
   need (InB i a1_.length) <|
   (line.blank (bix a1_ i)).bind fun r18 =>
   some r18).bind fun s13 =>
 some s13

def line.hex (c_ : Int) : Option Int :=
 letO (
  if 48 ≤ c_ then
   decide (c_ ≤ 57)
  else
   false) fun s20 =>
 if s20 = true then
  some (IntKind.wrap .i64 (IntKind.wrap .u8 (c_ - 48)))
 else
  letO (
   if 97 ≤ c_ then
    decide (c_ ≤ 102)
   else
    false) fun s25 =>
  if s25 = true then
   some (IntKind.wrap .i64 ((IntKind.wrap .i64 (IntKind.wrap .u8 (c_ - 97))) + 10))
  else
   letO (
    if 65 ≤ c_ then
     decide (c_ ≤ 70)
    else
     false) fun s30 =>
   if s30 = true then
    some (IntKind.wrap .i64 ((IntKind.wrap .i64 (IntKind.wrap .u8 (c_ - 65))) + 10))
   else
    some (-1)

def line.turn (s_ : List UInt8) (at_ : Int) : Option (Int × Int) :=
 (
  need (InB at_ s_.length) <|
  if (bix s_ at_) = 120 then
   if (IntKind.wrap .i64 (at_ + 2)) < (s_.length : Int) then
    need (InB (IntKind.wrap .i64 (at_ + 1)) s_.length) <|
    (line.hex (bix s_ (IntKind.wrap .i64 (at_ + 1)))).bind fun r47 =>
    if 0 ≤ r47 then
     need (InB (IntKind.wrap .i64 (at_ + 2)) s_.length) <|
     (line.hex (bix s_ (IntKind.wrap .i64 (at_ + 2)))).bind fun r50 =>
     some (decide (0 ≤ r50))
    else
     some false
   else
    some false
  else
   some false).bind fun s40 =>
 if s40 = true then
  need (InB (IntKind.wrap .i64 (at_ + 1)) s_.length) <|
  (line.hex (bix s_ (IntKind.wrap .i64 (at_ + 1)))).bind fun r52 =>
  need (InB (IntKind.wrap .i64 (at_ + 2)) s_.length) <|
  (line.hex (bix s_ (IntKind.wrap .i64 (at_ + 2)))).bind fun r54 =>
  some (IntKind.wrap .u8 (IntKind.wrap .i64 ((IntKind.wrap .i64 (16 * r52)) + r54)), IntKind.wrap .i64 (at_ + 3))
 else
  need (InB at_ s_.length) <|
  if (bix s_ at_) = 110 then
   some (10, IntKind.wrap .i64 (at_ + 1))
  else
   if (bix s_ at_) = 114 then
    some (13, IntKind.wrap .i64 (at_ + 1))
   else
    if (bix s_ at_) = 116 then
     some (9, IntKind.wrap .i64 (at_ + 1))
    else
     if (bix s_ at_) = 98 then
      some (8, IntKind.wrap .i64 (at_ + 1))
     else
      if (bix s_ at_) = 97 then
       some (7, IntKind.wrap .i64 (at_ + 1))
      else
       need (InB at_ s_.length) <|
       some (bix s_ at_, IntKind.wrap .i64 (at_ + 1))

structure line.quoted.S0 where
 at_ : Int
 b : List UInt8

def line.quoted.body0 (s_ : List UInt8) (mark : Int) (s414 : line.quoted.S0) : Option (line.quoted.S0 ⊕ (Int ⊕ ((List UInt8) × Int × Bool))) :=
 if s414.at_ < (s_.length : Int) then
  need (InB s414.at_ s_.length) <|
  if (bix s_ s414.at_) = mark then
   (line.quoted_1 (IntKind.wrap .i64 (s414.at_ + 1)) s_).bind fun r420 =>
   some (.inr (.inr (s414.b, IntKind.wrap .i64 (s414.at_ + 1), r420)))
  else
   letO (
    if (bix s_ s414.at_) = 92 then
     if mark = 34 then
      decide ((IntKind.wrap .i64 (s414.at_ + 1)) < (s_.length : Int))
     else
      false
    else
     false) fun s423 =>
   if s423 = true then
    (line.turn s_ (IntKind.wrap .i64 (s414.at_ + 1))).bind fun r428 =>
    need (IsU8 r428.1) <|
    need ((s414.b.length + [u8 r428.1].length) * 1 ≤ 140737488355328) <|
    some (.inl ⟨r428.2, s414.b ++ [u8 r428.1]⟩)
   else
    (
     if (bix s_ s414.at_) = 92 then
      if mark = 39 then
       if (IntKind.wrap .i64 (s414.at_ + 1)) < (s_.length : Int) then
        need (InB (IntKind.wrap .i64 (s414.at_ + 1)) s_.length) <|
        some (decide ((bix s_ (IntKind.wrap .i64 (s414.at_ + 1))) = mark))
       else
        some false
      else
       some false
     else
      some false).bind fun s436 =>
    if s436 = true then
     need (IsU8 mark) <|
     need ((s414.b.length + [u8 mark].length) * 1 ≤ 140737488355328) <|
     some (.inl ⟨IntKind.wrap .i64 (s414.at_ + 2), s414.b ++ [u8 mark]⟩)
    else
     need (IsU8 (bix s_ s414.at_)) <|
     need ((s414.b.length + [u8 (bix s_ s414.at_)].length) * 1 ≤ 140737488355328) <|
     some (.inl ⟨IntKind.wrap .i64 (s414.at_ + 1), s414.b ++ [u8 (bix s_ s414.at_)]⟩)
 else
  some (.inr (.inl s414.at_))

def line.quoted.loop0 (s_ : List UInt8) (mark : Int) (s414 : line.quoted.S0) : Option (Int ⊕ ((List UInt8) × Int × Bool)) := whileO (line.quoted.body0 s_ mark) s414

def line.quoted (s_ : List UInt8) (at_ : Int) (mark : Int) : Option ((List UInt8) × Int × Bool) :=
 (line.quoted.loop0 s_ mark ⟨at_, ([] : List UInt8)⟩).bind fun s455 => onSum s455 (fun s340 =>
  some (([] : List UInt8), s340, false)) fun s455x => some s455x

structure line.Split.S0 where
 out : List (List UInt8)
 at_ : Int

structure line.Split.S2 where
 at_ : Int

def line.Split.body2 (s_ : List UInt8) (s1484 : line.Split.S2) : Option (line.Split.S2 ⊕ Int) :=
 (
  if s1484.at_ < (s_.length : Int) then
   need (InB s1484.at_ s_.length) <|
   (line.blank (bix s_ s1484.at_)).bind fun r1496 =>
   some r1496
  else
   some false).bind fun s1491 =>
 if s1491 = true then
  some (.inl ⟨IntKind.wrap .i64 (s1484.at_ + 1)⟩)
 else
  some (.inr s1484.at_)

def line.Split.loop2 (s_ : List UInt8) (s1484 : line.Split.S2) : Option Int := whileO (line.Split.body2 s_) s1484

structure line.Split.S4 where
 at_ : Int
 b : List UInt8

def line.Split.body4 (s_ : List UInt8) (s1664 : line.Split.S4) : Option (line.Split.S4 ⊕ ((Int × (List UInt8)) ⊕ (line.Split.S0 ⊕ ((List (List UInt8)) × Bool)))) :=
 (
  if s1664.at_ < (s_.length : Int) then
   need (InB s1664.at_ s_.length) <|
   (line.blank (bix s_ s1664.at_)).bind fun r1677 =>
   some (!r1677)
  else
   some false).bind fun s1672 =>
 if s1672 = true then
  (
   need (InB s1664.at_ s_.length) <|
   if (bix s_ s1664.at_) = 34 then
    some false
   else
    need (InB s1664.at_ s_.length) <|
    some (!decide ((bix s_ s1664.at_) = 39))).bind fun s1681 =>
  if s1681 = true then
   need (InB s1664.at_ s_.length) <|
   need (IsU8 (bix s_ s1664.at_)) <|
   need ((s1664.b.length + [u8 (bix s_ s1664.at_)].length) * 1 ≤ 140737488355328) <|
   some (.inl ⟨IntKind.wrap .i64 (s1664.at_ + 1), s1664.b ++ [u8 (bix s_ s1664.at_)]⟩)
  else
   need (InB s1664.at_ s_.length) <|
   (line.quoted s_ (IntKind.wrap .i64 (s1664.at_ + 1)) (bix s_ s1664.at_)).bind fun r1692 =>
   if (!r1692.2.2) = true then
    some (.inr (.inr (.inr (([] : List (List UInt8)), false))))
   else
    need ((s1664.b.length + r1692.1.length) * 1 ≤ 140737488355328) <|
    some (.inl ⟨r1692.2.1, s1664.b ++ r1692.1⟩)
 else
  some (.inr (.inl (s1664.at_, s1664.b)))

def line.Split.loop4 (s_ : List UInt8) (s1664 : line.Split.S4) : Option ((Int × (List UInt8)) ⊕ (line.Split.S0 ⊕ ((List (List UInt8)) × Bool))) := whileO (line.Split.body4 s_) s1664

def line.Split.body0 (s_ : List UInt8) (s1418 : line.Split.S0) : Option (line.Split.S0 ⊕ ((List (List UInt8)) × Bool)) :=
 (line.Split.loop2 s_ ⟨s1418.at_⟩).bind fun s1459 =>
 if s1459 = (s_.length : Int) then
  some (.inr (s1418.out, true))
 else
  (line.Split.loop4 s_ ⟨s1459, ([] : List UInt8)⟩).bind fun s1703 => onSum s1703 (fun s1597 =>
   need ((s1418.out.length + [s1597.2].length) * 16 ≤ 140737488355328) <|
   some (.inl ⟨s1418.out ++ [s1597.2], s1597.1⟩)) fun s1703x => some s1703x

def line.Split.loop0 (s_ : List UInt8) (s1418 : line.Split.S0) : Option ((List (List UInt8)) × Bool) := whileO (line.Split.body0 s_) s1418

def line.Split (s_ : List UInt8) : Option ((List (List UInt8)) × Bool) :=
 line.Split.loop0 s_ ⟨([] : List (List UInt8)), 0⟩

def parse.parser.line_1 (s_ : List UInt8) (b1_ : parse.parser) : Option Bool :=
 some (decide (b1_.l.Bulk < (s_.length : Int)))

structure slices.IndexFunc_string_parse_parser_line_1.S0 where
 t8 : Int

def slices.IndexFunc_string_parse_parser_line_1.body0 (s_ : List (List UInt8)) (b1_ : parse.parser) (s112 : slices.IndexFunc_string_parse_parser_line_1.S0) : Option (slices.IndexFunc_string_parse_parser_line_1.S0 ⊕ (Unit ⊕ Int)) :=
 if s112.t8 < (s_.length : Int) then
  need (InB s112.t8 s_.length) <|
  (parse.parser.line_1 (ix s_ s112.t8) b1_).bind fun r119 =>
  if r119 = true then
   some (.inr (.inr s112.t8))
  else
   some (.inl ⟨IntKind.wrap .i64 (s112.t8 + 1)⟩)
 else
  some (.inr (.inl ()))

def slices.IndexFunc_string_parse_parser_line_1.loop0 (s_ : List (List UInt8)) (b1_ : parse.parser) (s112 : slices.IndexFunc_string_parse_parser_line_1.S0) : Option (Unit ⊕ Int) := whileO (slices.IndexFunc_string_parse_parser_line_1.body0 s_ b1_) s112

def slices.IndexFunc_string_parse_parser_line_1 (s_ : List (List UInt8)) (b1_ : parse.parser) : Option Int :=
 (slices.IndexFunc_string_parse_parser_line_1.loop0 s_ b1_ ⟨0⟩).bind fun s124 => onSum s124 (fun s91 =>
  some (-1)) fun s124x => some s124x

def slices.ContainsFunc_string_parse_parser_line_1 (s_ : List (List UInt8)) (b1_ : parse.parser) : Option Bool :=
 (slices.IndexFunc_string_parse_parser_line_1 s_ b1_).bind fun r4 =>
 some (decide (0 ≤ r4))

def parse.parser.line (p_ : parse.parser) : Option (Bool × parse.parser) :=
 (strings.IndexByte p_.s 10).bind fun r36 =>
 letO (
  if r36 < 0 then
   if p_.l.Line < (p_.s.length : Int) then
    true
   else
    decide (p_.l.Line < r36)
  else
   decide (p_.l.Line < r36)) fun s39 =>
 if s39 = true then
  (parse.parser.dies 6 p_).bind fun r44 =>
  some (r44.1, r44.2)
 else
  if r36 < 0 then
   some (false, p_)
  else
   need (InR 0 r36 p_.s.length) <|
   (strings.TrimSuffix (sub p_.s 0 r36) [13]).bind fun r48 =>
   (line.Split r48).bind fun r49 =>
   if (!r49.2) = true then
    (parse.parser.dies 16 p_).bind fun r51 =>
    some (r51.1, r51.2)
   else
    if p_.l.Args < (r49.1.length : Int) then
     (parse.parser.dies 7 p_).bind fun r54 =>
     some (r54.1, r54.2)
    else
     (slices.ContainsFunc_string_parse_parser_line_1 r49.1 p_).bind fun r57 =>
     if r57 = true then
      (parse.parser.dies 6 p_).bind fun r60 =>
      some (r60.1, r60.2)
     else
      (parse.parser.past (IntKind.wrap .i64 (r36 + 1)) p_).bind fun r63 =>
      (parse.parser.whole r49.1 r63).bind fun r66 =>
      some (true, r66)

def parse.parser.step (p_ : parse.parser) : Option (Bool × parse.parser) :=
 if p_.in_.Body = true then
  (parse.parser.body p_).bind fun r50 =>
  some (r50.1, r50.2)
 else
  if 0 < p_.in_.Left then
   (parse.parser.header 36 p_.l.Bulk 6 p_).bind fun r53 =>
   letO (
    if r53.2.1 = true then
     (true, r53.1)
    else
     (r53.2.2.in_.Body, r53.2.2.in_.Need)) fun s57 =>
   some (r53.2.1, { r53.2.2 with in_ := { r53.2.2.in_ with Body := s57.1, Need := s57.2 } })
  else
   if p_.s = ([] : List UInt8) then
    some (false, p_)
   else
    need (InB 0 p_.s.length) <|
    if (bix p_.s 0) = 42 then
     (parse.parser.header 42 p_.l.Args 7 p_).bind fun r65 =>
     letO (
      if r65.2.1 = true then
       r65.1
      else
       r65.2.2.in_.Left) fun s69 =>
     (
      letO (
       if r65.2.1 = true then
        decide (r65.1 = 0)
       else
        false) fun s87 =>
      if s87 = true then
       (parse.parser.whole ([] : List (List UInt8)) { r65.2.2 with in_ := { r65.2.2.in_ with Left := s69 } }).bind fun r91 =>
       some (r91.in_.Rest, r91.in_.Args, r91.in_.Left, r91.in_.Size, r91.in_.Body, r91.in_.Need, r91.in_.Dead, r91.s, r91.l.Args, r91.l.Bulk, r91.l.Line, r91.out)
      else
       some (r65.2.2.in_.Rest, r65.2.2.in_.Args, s69, r65.2.2.in_.Size, r65.2.2.in_.Body, r65.2.2.in_.Need, r65.2.2.in_.Dead, r65.2.2.s, r65.2.2.l.Args, r65.2.2.l.Bulk, r65.2.2.l.Line, r65.2.2.out)).bind fun s81 =>
     some (r65.2.1, ({ in_ := ({ Rest := s81.1, Args := s81.2.1, Left := s81.2.2.1, Size := s81.2.2.2.1, Body := s81.2.2.2.2.1, Need := s81.2.2.2.2.2.1, Dead := s81.2.2.2.2.2.2.1 } : api.Input), s := s81.2.2.2.2.2.2.2.1, l := ({ Args := s81.2.2.2.2.2.2.2.2.1, Bulk := s81.2.2.2.2.2.2.2.2.2.1, Line := s81.2.2.2.2.2.2.2.2.2.2.1 } : api.Limits), out := s81.2.2.2.2.2.2.2.2.2.2.2 } : parse.parser))
    else
     (parse.parser.line p_).bind fun r62 =>
     some (r62.1, r62.2)

structure parse.Feed.S0 where
 c : List UInt8
 c2 : List (List UInt8)
 c3 : Int
 c4 : Int
 c5 : Bool
 c6 : Int
 c7 : Int
 c8 : List UInt8
 c9 : Int
 c10 : Int
 c11 : Int
 c12 : List api.Request

def parse.Feed.body0 (in_ : api.Input) (l : api.Limits) (s115 : parse.Feed.S0) : Option (parse.Feed.S0 ⊕ ((List UInt8) × (List (List UInt8)) × Int × Int × Bool × Int × Int × (List UInt8) × Int × Int × Int × (List api.Request))) :=
 (parse.parser.step ({ in_ := ({ Rest := s115.c, Args := s115.c2, Left := s115.c3, Size := s115.c4, Body := s115.c5, Need := s115.c6, Dead := s115.c7 } : api.Input), s := s115.c8, l := ({ Args := s115.c9, Bulk := s115.c10, Line := s115.c11 } : api.Limits), out := s115.c12 } : parse.parser)).bind fun r121 =>
 if r121.1 = true then
  some (.inl ⟨r121.2.in_.Rest, r121.2.in_.Args, r121.2.in_.Left, r121.2.in_.Size, r121.2.in_.Body, r121.2.in_.Need, r121.2.in_.Dead, r121.2.s, r121.2.l.Args, r121.2.l.Bulk, r121.2.l.Line, r121.2.out⟩)
 else
  some (.inr (r121.2.in_.Rest, r121.2.in_.Args, r121.2.in_.Left, r121.2.in_.Size, r121.2.in_.Body, r121.2.in_.Need, r121.2.in_.Dead, r121.2.s, r121.2.l.Args, r121.2.l.Bulk, r121.2.l.Line, r121.2.out))

def parse.Feed.loop0 (in_ : api.Input) (l : api.Limits) (s115 : parse.Feed.S0) : Option ((List UInt8) × (List (List UInt8)) × Int × Int × Bool × Int × Int × (List UInt8) × Int × Int × Int × (List api.Request)) := whileO (parse.Feed.body0 in_ l) s115

def parse.Feed (in_ : api.Input) (b : List UInt8) (l : api.Limits) : Option (api.Input × (List api.Request) × Int) :=
 if in_.Dead = 0 then
  need (in_.Rest.length + b.length ≤ 9223372036854775807) <|
  (parse.Limits l).bind fun r69 =>
  (slices.Clone_string in_.Args).bind fun r71 =>
  (parse.Feed.loop0 in_ l ⟨([] : List UInt8), r71, in_.Left, in_.Size, in_.Body, in_.Need, in_.Dead, in_.Rest ++ b, r69.Args, r69.Bulk, r69.Line, ([] : List api.Request)⟩).bind fun s97 =>
  (strings.Clone s97.2.2.2.2.2.2.2.1).bind fun r126 =>
  some (({ Rest := r126, Args := s97.2.1, Left := s97.2.2.1, Size := s97.2.2.2.1, Body := s97.2.2.2.2.1, Need := s97.2.2.2.2.2.1, Dead := s97.2.2.2.2.2.2.1 } : api.Input), s97.2.2.2.2.2.2.2.2.2.2.2, s97.2.2.2.2.2.2.1)
 else
  some (({ Rest := ([] : List UInt8), Args := ([] : List (List UInt8)), Left := 0, Size := 0, Body := false, Need := 0, Dead := in_.Dead } : api.Input), ([] : List api.Request), in_.Dead)

def parse.Idle (in_ : api.Input) : Option Bool :=
 letO (
  if in_.Rest = ([] : List UInt8) then
   if in_.Size = 0 then
    decide (in_.Dead = 0)
   else
    false
  else
   false) fun s12 =>
 some s12

structure unit.read.S0 where
 t22 : Int
 c : List (List (List UInt8))

def unit.read.body0 (r76 : api.Input × (List api.Request) × Int) (s121 : unit.read.S0) : Option (unit.read.S0 ⊕ (List (List (List UInt8)))) :=
 if s121.t22 < (r76.2.1.length : Int) then
  need (InB s121.t22 r76.2.1.length) <|
  need ((s121.c.length + [(ix r76.2.1 s121.t22).Args].length) * 24 ≤ 140737488355328) <|
  some (.inl ⟨IntKind.wrap .i64 (s121.t22 + 1), s121.c ++ [(ix r76.2.1 s121.t22).Args]⟩)
 else
  some (.inr s121.c)

def unit.read.loop0 (r76 : api.Input × (List api.Request) × Int) (s121 : unit.read.S0) : Option (List (List (List UInt8))) := whileO (unit.read.body0 r76) s121

def unit.read (s_ : List UInt8) : Option (api.Unit × Bool) :=
 (parse.Feed ({ Rest := ([] : List UInt8), Args := ([] : List (List UInt8)), Left := 0, Size := 0, Body := false, Need := 0, Dead := 0 } : api.Input) s_ ({ Args := 65536, Bulk := 1048576, Line := 1 } : api.Limits)).bind fun r76 =>
 (unit.read.loop0 r76 ⟨0, ([] : List (List (List UInt8)))⟩).bind fun s104 =>
 (
  (parse.Idle r76.1).bind fun r138 =>
  if (!r138) = true then
   some true
  else
   (unit.may ({ Cmds := s104 } : api.Unit)).bind fun r140 =>
   some (!r140)).bind fun s135 =>
 if s135 = true then
  some (({ Cmds := ([] : List (List (List UInt8))) } : api.Unit), false)
 else
  (unit.load ({ Cmds := s104 } : api.Unit)).bind fun r141 =>
  letO (
   if (!r141.2) = true then
    true
   else
    (!decide (r141.1 = s_))) fun s143 =>
  if s143 = true then
   some (({ Cmds := ([] : List (List (List UInt8))) } : api.Unit), false)
  else
   some (({ Cmds := s104 } : api.Unit), true)

def unit.Take (s_ : List UInt8) : Option (api.Unit × Int × Int) :=
 if s_ = ([] : List UInt8) then
  some (({ Cmds := ([] : List (List (List UInt8))) } : api.Unit), 0, 4)
 else
  need (InB 0 s_.length) <|
  if (bix s_ 0) = 85 then
   if (s_.length : Int) < 5 then
    some (({ Cmds := ([] : List (List (List UInt8))) } : api.Unit), 0, 4)
   else
    need (InB 1 s_.length) <|
    need (InB 2 s_.length) <|
    letO (Go.bits .or .i64 (IntKind.wrap .i64 (bix s_ 1)) (IntKind.wrap .i64 ((IntKind.wrap .i64 (bix s_ 2)) * 2 ^ min (Int.toNat 8) (IntKind.bits .i64)))) fun x26 =>
    need (InB 3 s_.length) <|
    letO (Go.bits .or .i64 x26 (IntKind.wrap .i64 ((IntKind.wrap .i64 (bix s_ 3)) * 2 ^ min (Int.toNat 16) (IntKind.bits .i64)))) fun x28 =>
    need (InB 4 s_.length) <|
    letO (Go.bits .or .i64 x28 (IntKind.wrap .i64 ((IntKind.wrap .i64 (bix s_ 4)) * 2 ^ min (Int.toNat 24) (IntKind.bits .i64)))) fun x30 =>
    if 4194304 < x30 then
     some (({ Cmds := ([] : List (List (List UInt8))) } : api.Unit), 0, 6)
    else
     if (s_.length : Int) < (IntKind.wrap .i64 (x30 + 9)) then
      some (({ Cmds := ([] : List (List (List UInt8))) } : api.Unit), 0, 4)
     else
      need (InR 0 (IntKind.wrap .i64 (x30 + 9)) s_.length) <|
      (crc.Fits (sub s_ 0 (IntKind.wrap .i64 (x30 + 9)))).bind fun r32 =>
      if (!r32) = true then
       some (({ Cmds := ([] : List (List (List UInt8))) } : api.Unit), 0, 14)
      else
       need (InR 5 (IntKind.wrap .i64 (5 + x30)) s_.length) <|
       (unit.read (sub s_ 5 (IntKind.wrap .i64 (5 + x30)))).bind fun r34 =>
       if (!r34.2) = true then
        some (({ Cmds := ([] : List (List (List UInt8))) } : api.Unit), 0, 5)
       else
        some (r34.1, IntKind.wrap .i64 (x30 + 9), 0)
  else
   some (({ Cmds := ([] : List (List (List UInt8))) } : api.Unit), 0, 5)

structure unit.All.S0 where
 l : List api.Unit
 at_ : Int

def unit.All.body0 (s_ : List UInt8) (s43 : unit.All.S0) : Option (unit.All.S0 ⊕ ((List api.Unit) × Int)) :=
 need (InR s43.at_ (s_.length : Int) s_.length) <|
 (unit.Take (sub s_ s43.at_ (s_.length : Int))).bind fun r49 =>
 if r49.2.2 = 0 then
  need ((s43.l.length + [r49.1].length) * 24 ≤ 140737488355328) <|
  some (.inl ⟨s43.l ++ [r49.1], IntKind.wrap .i64 (s43.at_ + r49.2.1)⟩)
 else
  some (.inr (s43.l, s43.at_))

def unit.All.loop0 (s_ : List UInt8) (s43 : unit.All.S0) : Option ((List api.Unit) × Int) := whileO (unit.All.body0 s_) s43

def unit.All (s_ : List UInt8) : Option ((List api.Unit) × Int) :=
 unit.All.loop0 s_ ⟨([] : List api.Unit), 0⟩

structure slices.IndexFunc_api_File_v_disk_find_1.S0 where
 t8 : Int

def slices.IndexFunc_api_File_v_disk_find_1.body0 (s_ : List api.File) (b1_ : List UInt8) (s83 : slices.IndexFunc_api_File_v_disk_find_1.S0) : Option (slices.IndexFunc_api_File_v_disk_find_1.S0 ⊕ (Unit ⊕ Int)) :=
 if s83.t8 < (s_.length : Int) then
  need (InB s83.t8 s_.length) <|
  need (InB s83.t8 s_.length) <|
  (disk.find_1 (ix s_ s83.t8) b1_).bind fun r89 =>
  if r89 = true then
   some (.inr (.inr s83.t8))
  else
   some (.inl ⟨IntKind.wrap .i64 (s83.t8 + 1)⟩)
 else
  some (.inr (.inl ()))

def slices.IndexFunc_api_File_v_disk_find_1.loop0 (s_ : List api.File) (b1_ : List UInt8) (s83 : slices.IndexFunc_api_File_v_disk_find_1.S0) : Option (Unit ⊕ Int) := whileO (slices.IndexFunc_api_File_v_disk_find_1.body0 s_ b1_) s83

def slices.IndexFunc_api_File_v_disk_find_1 (s_ : List api.File) (b1_ : List UInt8) : Option Int :=
 (slices.IndexFunc_api_File_v_disk_find_1.loop0 s_ b1_ ⟨0⟩).bind fun s92 => onSum s92 (fun s68 =>
  some (-1)) fun s92x => some s92x

def disk.find_v (d : api.Disk) (name : List UInt8) : Option Int :=
 (slices.IndexFunc_api_File_v_disk_find_1 d.Files name).bind fun r6 =>
 some r6

def disk.safe (f : api.File) : Option Int :=
 some (if (f.Data.length : Int) < (if f.Synced < 0 then 0 else f.Synced) then (f.Data.length : Int) else (if f.Synced < 0 then 0 else f.Synced))

def disk.Cut (d : api.Disk) (name : List UInt8) (n_ : Int) : Option (api.Disk × Int) :=
 (disk.own d).bind fun r18 =>
 (disk.find_v r18 name).bind fun r21 =>
 if r21 < 0 then
  some (r18, 8)
 else
  need (InB r21 r18.Files.length) <|
  need (InB r21 r18.Files.length) <|
  need (InB r21 r18.Files.length) <|
  need (InR 0 (if ((ix r18.Files r21).Data.length : Int) < (if n_ < 0 then 0 else n_) then ((ix r18.Files r21).Data.length : Int) else (if n_ < 0 then 0 else n_)) (ix r18.Files r21).Data.length) <|
  need (InB r21 r18.Files.length) <|
  need (InB r21 (upd r18.Files r21 { (ix r18.Files r21) with Data := sub (ix r18.Files r21).Data 0 (if ((ix r18.Files r21).Data.length : Int) < (if n_ < 0 then 0 else n_) then ((ix r18.Files r21).Data.length : Int) else (if n_ < 0 then 0 else n_)) }).length) <|
  (disk.safe ({ Name := (ix (upd r18.Files r21 { (ix r18.Files r21) with Data := sub (ix r18.Files r21).Data 0 (if ((ix r18.Files r21).Data.length : Int) < (if n_ < 0 then 0 else n_) then ((ix r18.Files r21).Data.length : Int) else (if n_ < 0 then 0 else n_)) }) r21).Name, Data := (ix (upd r18.Files r21 { (ix r18.Files r21) with Data := sub (ix r18.Files r21).Data 0 (if ((ix r18.Files r21).Data.length : Int) < (if n_ < 0 then 0 else n_) then ((ix r18.Files r21).Data.length : Int) else (if n_ < 0 then 0 else n_)) }) r21).Data, Synced := (ix (upd r18.Files r21 { (ix r18.Files r21) with Data := sub (ix r18.Files r21).Data 0 (if ((ix r18.Files r21).Data.length : Int) < (if n_ < 0 then 0 else n_) then ((ix r18.Files r21).Data.length : Int) else (if n_ < 0 then 0 else n_)) }) r21).Synced } : api.File)).bind fun r28 =>
  need (InB r21 (upd r18.Files r21 { (ix r18.Files r21) with Data := sub (ix r18.Files r21).Data 0 (if ((ix r18.Files r21).Data.length : Int) < (if n_ < 0 then 0 else n_) then ((ix r18.Files r21).Data.length : Int) else (if n_ < 0 then 0 else n_)) }).length) <|
  some ({ r18 with Files := upd (upd r18.Files r21 { (ix r18.Files r21) with Data := sub (ix r18.Files r21).Data 0 (if ((ix r18.Files r21).Data.length : Int) < (if n_ < 0 then 0 else n_) then ((ix r18.Files r21).Data.length : Int) else (if n_ < 0 then 0 else n_)) }) r21 ({ Name := (ix (upd r18.Files r21 { (ix r18.Files r21) with Data := sub (ix r18.Files r21).Data 0 (if ((ix r18.Files r21).Data.length : Int) < (if n_ < 0 then 0 else n_) then ((ix r18.Files r21).Data.length : Int) else (if n_ < 0 then 0 else n_)) }) r21).Name, Data := (ix (upd r18.Files r21 { (ix r18.Files r21) with Data := sub (ix r18.Files r21).Data 0 (if ((ix r18.Files r21).Data.length : Int) < (if n_ < 0 then 0 else n_) then ((ix r18.Files r21).Data.length : Int) else (if n_ < 0 then 0 else n_)) }) r21).Data, Synced := r28 } : api.File) }, 0)

def disk.Safe (d : api.Disk) (name : List UInt8) : Option (List UInt8) :=
 (disk.find d name).bind fun r9 =>
 if r9 < 0 then
  some ([] : List UInt8)
 else
  need (InB r9 d.Files.length) <|
  need (InB r9 d.Files.length) <|
  (disk.safe (ix d.Files r9)).bind fun r12 =>
  need (InR 0 r12 (ix d.Files r9).Data.length) <|
  some (sub (ix d.Files r9).Data 0 r12)

def disk.meets_1 (f : api.Fault) (a1_ : List UInt8) (a2_ : Int) : Option Bool :=
 letO (
  if f.Name = a1_ then
   decide (f.Kind = a2_)
  else
   false) fun s9 =>
 some s9

structure slices.IndexFunc_api_Fault_v_disk_meets_1.S0 where
 t8 : Int

def slices.IndexFunc_api_Fault_v_disk_meets_1.body0 (s_ : List api.Fault) (b1_ : List UInt8) (b2_ : Int) (s83 : slices.IndexFunc_api_Fault_v_disk_meets_1.S0) : Option (slices.IndexFunc_api_Fault_v_disk_meets_1.S0 ⊕ (Unit ⊕ Int)) :=
 if s83.t8 < (s_.length : Int) then
  need (InB s83.t8 s_.length) <|
  need (InB s83.t8 s_.length) <|
  (disk.meets_1 (ix s_ s83.t8) b1_ b2_).bind fun r89 =>
  if r89 = true then
   some (.inr (.inr s83.t8))
  else
   some (.inl ⟨IntKind.wrap .i64 (s83.t8 + 1)⟩)
 else
  some (.inr (.inl ()))

def slices.IndexFunc_api_Fault_v_disk_meets_1.loop0 (s_ : List api.Fault) (b1_ : List UInt8) (b2_ : Int) (s83 : slices.IndexFunc_api_Fault_v_disk_meets_1.S0) : Option (Unit ⊕ Int) := whileO (slices.IndexFunc_api_Fault_v_disk_meets_1.body0 s_ b1_ b2_) s83

def slices.IndexFunc_api_Fault_v_disk_meets_1 (s_ : List api.Fault) (b1_ : List UInt8) (b2_ : Int) : Option Int :=
 (slices.IndexFunc_api_Fault_v_disk_meets_1.loop0 s_ b1_ b2_ ⟨0⟩).bind fun s92 => onSum s92 (fun s68 =>
  some (-1)) fun s92x => some s92x

def slices.Delete_api_Fault_v (s_ : List api.Fault) (i : Int) (j : Int) : Option (List api.Fault) :=
 need (0 ≤ i ∧ i ≤ j ∧ j ≤ (s_.length : Int) ∧ (s_.length : Int) ≤ (s_.length : Int)) <|
 if i = j then
  some s_
 else
  need (InR 0 i s_.length) <|
  need (InR j (s_.length : Int) s_.length) <|
  need (0 ≤ i ∧ i ≤ j ∧ j ≤ (s_.length : Int) ∧ (s_.length : Int) = (s_.length : Int)) <|
  need ((0 : Int) ≤ 0 ∧ 0 ≤ (i + ((s_.length : Int) - j))) <|
  need (InP 0 (i + ((s_.length : Int) - j)) (mvL s_ (Int.toNat i) (Int.toNat j)).length) <|
  need (0 ≤ ((i + ((s_.length : Int) - j)) - 0) ∧ ((i + ((s_.length : Int) - j)) - 0) ≤ (s_.length : Int) ∧ 0 + (s_.length : Int) ≤ ((mvL s_ (Int.toNat i) (Int.toNat j)).length : Int)) <|
  need (InP (0 + ((i + ((s_.length : Int) - j)) - 0)) (0 + (s_.length : Int)) (mvL s_ (Int.toNat i) (Int.toNat j)).length) <|
  need (0 ≤ (i + ((s_.length : Int) - j)) ∧ (i + ((s_.length : Int) - j)) ≤ ((clrL (mvL s_ (Int.toNat i) (Int.toNat j)) (Int.toNat (0 + ((i + ((s_.length : Int) - j)) - 0))) (Int.toNat (0 + (s_.length : Int))) (({ Name := ([] : List UInt8), Kind := 0, Short := 0 } : api.Fault) : api.Fault)).length : Int)) <|
  some (List.take (Int.toNat (i + ((s_.length : Int) - j))) (clrL (mvL s_ (Int.toNat i) (Int.toNat j)) (Int.toNat (0 + ((i + ((s_.length : Int) - j)) - 0))) (Int.toNat (0 + (s_.length : Int))) (({ Name := ([] : List UInt8), Kind := 0, Short := 0 } : api.Fault) : api.Fault)))

def disk.meets_v (name : List UInt8) (kind : Int) (d : api.Disk) : Option (api.Fault × Bool × api.Disk) :=
 (slices.IndexFunc_api_Fault_v_disk_meets_1 d.Faults name kind).bind fun r14 =>
 if r14 < 0 then
  some (({ Name := ([] : List UInt8), Kind := 0, Short := 0 } : api.Fault), false, d)
 else
  need (InB r14 d.Faults.length) <|
  need (InB r14 d.Faults.length) <|
  (slices.Delete_api_Fault_v d.Faults r14 (IntKind.wrap .i64 (r14 + 1))).bind fun r18 =>
  some ((ix d.Faults r14), true, { d with Faults := r18 })

def disk.Sync (d : api.Disk) (name : List UInt8) : Option (api.Disk × Int) :=
 (disk.own d).bind fun r18 =>
 (disk.find_v r18 name).bind fun r21 =>
 if r21 < 0 then
  some (r18, 8)
 else
  (disk.meets_v name 2 r18).bind fun r22 =>
  if r22.2.1 = true then
   some ({ r18 with Faults := r22.2.2.Faults }, 15)
  else
   need (InB r21 r18.Files.length) <|
   need (InB r21 r18.Files.length) <|
   need (InB r21 r18.Files.length) <|
   need (InB r21 r18.Files.length) <|
   some ({ r22.2.2 with Files := upd r18.Files r21 { (ix r18.Files r21) with Synced := ((ix r18.Files r21).Data.length : Int) } }, 0)

def restore.Load (d : api.Disk) (name : List UInt8) : Option (api.Disk × (List api.Unit) × Int) :=
 (restore.Other name).bind fun r31 =>
 (disk.Remove d r31).bind fun r32 =>
 (disk.Read r32 name).bind fun r33 =>
 if r33.2 = 0 then
  (unit.All r33.1).bind fun r35 =>
  (disk.Cut r32 name r35.2).bind fun r37 =>
  if r37.2 = 0 then
   (
    (disk.Safe r37.1 name).bind fun r50 =>
    if (r50.length : Int) < r35.2 then
     (disk.Sync r37.1 name).bind fun r51 =>
     if r51.2 = 0 then
      some (.inl (r51.1.Files, r51.1.Faults))
     else
      some (.inr (r51.1, ([] : List api.Unit), r51.2))
    else
     some (.inl (r37.1.Files, r37.1.Faults))).bind fun s57 => onSum s57 (fun s47 =>
    some (({ Files := s47.1, Faults := s47.2 } : api.Disk), r35.1, 0)) fun s57x => some s57x
  else
   some (r37.1, ([] : List api.Unit), r37.2)
 else
  some (r32, ([] : List api.Unit), 0)

def slices.SortFunc_api_File (x : List api.File) : Option (List api.File) :=
 need (x.length < 4611686018427387904 ∧ (x.map fun y => y.Name).Nodup) <|
 some (x.mergeSort fun a b => !strLt b.Name a.Name)

structure disk.counting.S0 where
 t9 : Int
 v : List api.File

def disk.counting.body0 (d : api.Disk) (s255 : disk.counting.S0) : Option (disk.counting.S0 ⊕ (List api.File)) :=
 if s255.t9 < (d.Files.length : Int) then
  (
   need (InB s255.t9 d.Files.length) <|
   (disk.find d (ix d.Files s255.t9).Name).bind fun r273 =>
   if r273 = s255.t9 then
    (disk.safe (ix d.Files s255.t9)).bind fun r274 =>
    need ((s255.v.length + [{ (ix d.Files s255.t9) with Synced := r274 }].length) * 40 ≤ 140737488355328) <|
    some (s255.v ++ [{ (ix d.Files s255.t9) with Synced := r274 }])
   else
    some s255.v).bind fun s267 =>
  some (.inl ⟨IntKind.wrap .i64 (s255.t9 + 1), s267⟩)
 else
  some (.inr s255.v)

def disk.counting.loop0 (d : api.Disk) (s255 : disk.counting.S0) : Option (List api.File) := whileO (disk.counting.body0 d) s255

def disk.counting (d : api.Disk) : Option (List api.File) :=
 (disk.counting.loop0 d ⟨0, ([] : List api.File)⟩).bind fun s209 =>
 (slices.SortFunc_api_File s209).bind fun r280 =>
 some r280

structure slices.Equal_api_File.S0 where
 t13 : Int

def slices.Equal_api_File.body0 (s1_ : List api.File) (s2_ : List api.File) (s73 : slices.Equal_api_File.S0) : Option (slices.Equal_api_File.S0 ⊕ (Unit ⊕ Bool)) :=
 if s73.t13 < (s1_.length : Int) then
  need (InB s73.t13 s1_.length) <|
  need (InB s73.t13 s2_.length) <|
  if (ix s1_ s73.t13) = (ix s2_ s73.t13) then
   some (.inl ⟨IntKind.wrap .i64 (s73.t13 + 1)⟩)
  else
   some (.inr (.inr false))
 else
  some (.inr (.inl ()))

def slices.Equal_api_File.loop0 (s1_ : List api.File) (s2_ : List api.File) (s73 : slices.Equal_api_File.S0) : Option (Unit ⊕ Bool) := whileO (slices.Equal_api_File.body0 s1_ s2_) s73

def slices.Equal_api_File (s1_ : List api.File) (s2_ : List api.File) : Option Bool :=
 if (s1_.length : Int) = (s2_.length : Int) then
  (slices.Equal_api_File.loop0 s1_ s2_ ⟨0⟩).bind fun s81 => onSum s81 (fun s60 =>
   some true) fun s81x => some s81x
 else
  some false

structure slices.Equal_api_Fault.S0 where
 t13 : Int

def slices.Equal_api_Fault.body0 (s1_ : List api.Fault) (s2_ : List api.Fault) (s73 : slices.Equal_api_Fault.S0) : Option (slices.Equal_api_Fault.S0 ⊕ (Unit ⊕ Bool)) :=
 if s73.t13 < (s1_.length : Int) then
  need (InB s73.t13 s1_.length) <|
  need (InB s73.t13 s2_.length) <|
  if (ix s1_ s73.t13) = (ix s2_ s73.t13) then
   some (.inl ⟨IntKind.wrap .i64 (s73.t13 + 1)⟩)
  else
   some (.inr (.inr false))
 else
  some (.inr (.inl ()))

def slices.Equal_api_Fault.loop0 (s1_ : List api.Fault) (s2_ : List api.Fault) (s73 : slices.Equal_api_Fault.S0) : Option (Unit ⊕ Bool) := whileO (slices.Equal_api_Fault.body0 s1_ s2_) s73

def slices.Equal_api_Fault (s1_ : List api.Fault) (s2_ : List api.Fault) : Option Bool :=
 if (s1_.length : Int) = (s2_.length : Int) then
  (slices.Equal_api_Fault.loop0 s1_ s2_ ⟨0⟩).bind fun s81 => onSum s81 (fun s60 =>
   some true) fun s81x => some s81x
 else
  some false

def disk.Same (a : api.Disk) (b : api.Disk) : Option Bool :=
 (
  (disk.counting a).bind fun r26 =>
  (disk.counting b).bind fun r27 =>
  (slices.Equal_api_File r26 r27).bind fun r28 =>
  if r28 = true then
   (slices.Equal_api_Fault a.Faults b.Faults).bind fun r30 =>
   some r30
  else
   some false).bind fun s23 =>
 some s23

def mewslaw18.alive  : Option Bool :=
 (unit.Put ({ Cmds := [[[80, 73, 78, 71]]] } : api.Unit)).bind fun r23 =>
 if (r23.1.length : Int) = 23 then
  need (InR 0 9 r23.1.length) <|
  need (r23.1.length + (sub r23.1 0 9).length ≤ 9223372036854775807) <|
  (restore.Load ({ Files := [({ Name := [102], Data := r23.1 ++ (sub r23.1 0 9), Synced := 0 } : api.File), ({ Name := [102, 46, 110, 101, 119], Data := [120], Synced := 0 } : api.File)], Faults := ([] : List api.Fault) } : api.Disk) [102]).bind fun r26 =>
  (
   if r23.2 = 0 then
    if r26.2.2 = 0 then
     if (r26.2.1.length : Int) = 1 then
      (disk.Same r26.1 ({ Files := [({ Name := [102], Data := r23.1, Synced := 23 } : api.File)], Faults := ([] : List api.Fault) } : api.Disk)).bind fun r41 =>
      if r41 = true then
       (restore.Other [102]).bind fun r43 =>
       some (decide (r43 = [102, 46, 110, 101, 119]))
      else
       some false
     else
      some false
    else
     some false
   else
    some false).bind fun s35 =>
  some s35
 else
  some false

structure mewsref15.May.S0 where
 i : Int

structure mewsref15.May.S2 where
 k : Int

def mewsref15.May.body2 (u_ : api.Unit) (s580 : mewsref15.May.S0) (s623 : mewsref15.May.S2) : Option (mewsref15.May.S2 ⊕ (Unit ⊕ (mewsref15.May.S0 ⊕ (Unit ⊕ Bool)))) :=
 if s623.k < ((ix u_.Cmds s580.i).length : Int) then
  need (InB s623.k (ix u_.Cmds s580.i).length) <|
  if 1048576 < ((ix (ix u_.Cmds s580.i) s623.k).length : Int) then
   some (.inr (.inr (.inr (.inr false))))
  else
   some (.inl ⟨IntKind.wrap .i64 (s623.k + 1)⟩)
 else
  some (.inr (.inl ()))

def mewsref15.May.loop2 (u_ : api.Unit) (s580 : mewsref15.May.S0) (s623 : mewsref15.May.S2) : Option (Unit ⊕ (mewsref15.May.S0 ⊕ (Unit ⊕ Bool))) := whileO (mewsref15.May.body2 u_ s580) s623

def mewsref15.May.body0 (u_ : api.Unit) (s580 : mewsref15.May.S0) : Option (mewsref15.May.S0 ⊕ (Unit ⊕ Bool)) :=
 if s580.i < (u_.Cmds.length : Int) then
  (
   need (InB s580.i u_.Cmds.length) <|
   letO (
    if ((ix u_.Cmds s580.i).length : Int) < 1 then
     true
    else
     decide (65536 < ((ix u_.Cmds s580.i).length : Int))) fun s611 =>
   if s611 = true then
    some (.inr (.inr (.inr false)))
   else
    mewsref15.May.loop2 u_ s580 ⟨0⟩).bind fun s631 => onSum s631 (fun s606 =>
   some (.inl ⟨IntKind.wrap .i64 (s580.i + 1)⟩)) fun s631x => some s631x
 else
  some (.inr (.inl ()))

def mewsref15.May.loop0 (u_ : api.Unit) (s580 : mewsref15.May.S0) : Option (Unit ⊕ Bool) := whileO (mewsref15.May.body0 u_) s580

def mewsref15.May (u_ : api.Unit) : Option Bool :=
 letO (
  if (u_.Cmds.length : Int) < 1 then
   true
  else
   decide (4096 < (u_.Cmds.length : Int))) fun s320 =>
 if s320 = true then
  some false
 else
  (mewsref15.May.loop0 u_ ⟨0⟩).bind fun s633 => onSum s633 (fun s477 =>
   some true) fun s633x => some s633x

def mewsref01.digits.rec : Nat → Int → Option (List UInt8)
 | 0, _ => none
 | kk + 1, n_ =>
  if (-10) < n_ then
   need (InR (IntKind.wrap .i64 (0 - (n_.tmod 10))) (IntKind.wrap .i64 ((IntKind.wrap .i64 (0 - (n_.tmod 10))) + 1)) [48, 49, 50, 51, 52, 53, 54, 55, 56, 57].length) <|
   letO (sub [48, 49, 50, 51, 52, 53, 54, 55, 56, 57] (IntKind.wrap .i64 (0 - (n_.tmod 10))) (IntKind.wrap .i64 ((IntKind.wrap .i64 (0 - (n_.tmod 10))) + 1))) fun x9 =>
   some x9
  else
   (mewsref01.digits.rec kk (IntKind.wrap .i64 (n_.tdiv 10))).bind fun r10 =>
   need (InR (IntKind.wrap .i64 (0 - (n_.tmod 10))) (IntKind.wrap .i64 ((IntKind.wrap .i64 (0 - (n_.tmod 10))) + 1)) [48, 49, 50, 51, 52, 53, 54, 55, 56, 57].length) <|
   letO (sub [48, 49, 50, 51, 52, 53, 54, 55, 56, 57] (IntKind.wrap .i64 (0 - (n_.tmod 10))) (IntKind.wrap .i64 ((IntKind.wrap .i64 (0 - (n_.tmod 10))) + 1))) fun x12 =>
   need (r10.length + x12.length ≤ 9223372036854775807) <|
   some (r10 ++ x12)

def mewsref01.digits (n_ : Int) : Option (List UInt8) := fixO fun kk => mewsref01.digits.rec kk n_

def mewsref01.Text (n_ : Int) : Option (List UInt8) :=
 if n_ < 0 then
  (mewsref01.digits n_).bind fun r5 =>
  need ([45].length + r5.length ≤ 9223372036854775807) <|
  some ([45] ++ r5)
 else
  (mewsref01.digits (IntKind.wrap .i64 (0 - n_))).bind fun r7 =>
  some r7

structure mewsref05.Put.S0 where
 s : List UInt8
 i : Int

def mewsref05.Put.body0 (args : List (List UInt8)) (s147 : mewsref05.Put.S0) : Option (mewsref05.Put.S0 ⊕ (List UInt8)) :=
 if s147.i < (args.length : Int) then
  need (InB s147.i args.length) <|
  (mewsref01.Text ((ix args s147.i).length : Int)).bind fun r152 =>
  need ([36].length + r152.length ≤ 9223372036854775807) <|
  need (([36] ++ r152).length + [13, 10].length ≤ 9223372036854775807) <|
  need (InB s147.i args.length) <|
  need ((([36] ++ r152) ++ [13, 10]).length + (ix args s147.i).length ≤ 9223372036854775807) <|
  letO ((([36] ++ r152) ++ [13, 10]) ++ (ix args s147.i)) fun x157 =>
  need (x157.length + [13, 10].length ≤ 9223372036854775807) <|
  need (s147.s.length + (x157 ++ [13, 10]).length ≤ 9223372036854775807) <|
  some (.inl ⟨s147.s ++ (x157 ++ [13, 10]), IntKind.wrap .i64 (s147.i + 1)⟩)
 else
  some (.inr s147.s)

def mewsref05.Put.loop0 (args : List (List UInt8)) (s147 : mewsref05.Put.S0) : Option (List UInt8) := whileO (mewsref05.Put.body0 args) s147

def mewsref05.Put (args : List (List UInt8)) : Option (List UInt8) :=
 (mewsref01.Text (args.length : Int)).bind fun r81 =>
 need ([42].length + r81.length ≤ 9223372036854775807) <|
 need (([42] ++ r81).length + [13, 10].length ≤ 9223372036854775807) <|
 (mewsref05.Put.loop0 args ⟨([42] ++ r81) ++ [13, 10], 0⟩).bind fun s121 =>
 some s121

structure mewsref15.load.S0 where
 s : List UInt8
 i : Int

def mewsref15.load.body0 (u_ : api.Unit) (s128 : mewsref15.load.S0) : Option (mewsref15.load.S0 ⊕ (List UInt8)) :=
 letO (
  if s128.i < (u_.Cmds.length : Int) then
   decide ((s128.s.length : Int) ≤ 4194304)
  else
   false) fun s133 =>
 if s133 = true then
  need (InB s128.i u_.Cmds.length) <|
  (mewsref05.Put (ix u_.Cmds s128.i)).bind fun r138 =>
  need (s128.s.length + r138.length ≤ 9223372036854775807) <|
  some (.inl ⟨s128.s ++ r138, IntKind.wrap .i64 (s128.i + 1)⟩)
 else
  some (.inr s128.s)

def mewsref15.load.loop0 (u_ : api.Unit) (s128 : mewsref15.load.S0) : Option (List UInt8) := whileO (mewsref15.load.body0 u_) s128

def mewsref15.load (u_ : api.Unit) : Option (List UInt8) :=
 (mewsref15.load.loop0 u_ ⟨([] : List UInt8), 0⟩).bind fun s105 =>
 some s105

structure mewsref14.Byte.S0 where
 n : Int
 i : Int

def mewsref14.Byte.body0  (s93 : mewsref14.Byte.S0) : Option (mewsref14.Byte.S0 ⊕ Int) :=
 if s93.i < 8 then
  letO (
   if (s93.n.tmod 2) = 1 then
    Go.bits .xor .u32 (IntKind.wrap .u32 (s93.n.tdiv 2)) 3988292384
   else
    IntKind.wrap .u32 (s93.n.tdiv 2)) fun s98 =>
  some (.inl ⟨s98, IntKind.wrap .i64 (s93.i + 1)⟩)
 else
  some (.inr s93.n)

def mewsref14.Byte.loop0  (s93 : mewsref14.Byte.S0) : Option Int := whileO (mewsref14.Byte.body0 ) s93

def mewsref14.Byte (n_ : Int) (b : Int) : Option Int :=
 (mewsref14.Byte.loop0  ⟨Go.bits .xor .u32 n_ (IntKind.wrap .u32 b), 0⟩).bind fun s76 =>
 some s76

structure mewsref14.More.S0 where
 n : Int
 i : Int

def mewsref14.More.body0 (s_ : List UInt8) (s60 : mewsref14.More.S0) : Option (mewsref14.More.S0 ⊕ Int) :=
 if s60.i < (s_.length : Int) then
  need (InB s60.i s_.length) <|
  (mewsref14.Byte s60.n (bix s_ s60.i)).bind fun r65 =>
  some (.inl ⟨r65, IntKind.wrap .i64 (s60.i + 1)⟩)
 else
  some (.inr s60.n)

def mewsref14.More.loop0 (s_ : List UInt8) (s60 : mewsref14.More.S0) : Option Int := whileO (mewsref14.More.body0 s_) s60

def mewsref14.More (n_ : Int) (s_ : List UInt8) : Option Int :=
 (mewsref14.More.loop0 s_ ⟨n_, 0⟩).bind fun s49 =>
 some s49

def mewsref14.Of (s_ : List UInt8) : Option Int :=
 (mewsref14.More 4294967295 s_).bind fun r2 =>
 some (Go.bits .xor .u32 r2 4294967295)

def mewsref14.Seal (s_ : List UInt8) : Option (List UInt8) :=
 (mewsref14.Of s_).bind fun r8 =>
 need (IsU8 (IntKind.wrap .u8 r8)) <|
 need (IsU8 (IntKind.wrap .u8 (IntKind.wrap .u32 (r8.tdiv 256)))) <|
 need (IsU8 (IntKind.wrap .u8 (IntKind.wrap .u32 (r8.tdiv 65536)))) <|
 need (IsU8 (IntKind.wrap .u8 (IntKind.wrap .u32 (r8.tdiv 16777216)))) <|
 need (s_.length + [u8 (IntKind.wrap .u8 r8), u8 (IntKind.wrap .u8 (IntKind.wrap .u32 (r8.tdiv 256))), u8 (IntKind.wrap .u8 (IntKind.wrap .u32 (r8.tdiv 65536))), u8 (IntKind.wrap .u8 (IntKind.wrap .u32 (r8.tdiv 16777216)))].length ≤ 9223372036854775807) <|
 letO (s_ ++ [u8 (IntKind.wrap .u8 r8), u8 (IntKind.wrap .u8 (IntKind.wrap .u32 (r8.tdiv 256))), u8 (IntKind.wrap .u8 (IntKind.wrap .u32 (r8.tdiv 65536))), u8 (IntKind.wrap .u8 (IntKind.wrap .u32 (r8.tdiv 16777216)))]) fun x14 =>
 some x14

def mewsref15.Put (u_ : api.Unit) : Option ((List UInt8) × Int) :=
 (mewsref15.May u_).bind fun r15 =>
 if (!r15) = true then
  some (([] : List UInt8), 1)
 else
  (mewsref15.load u_).bind fun r16 =>
  if 4194304 < (r16.length : Int) then
   some (([] : List UInt8), 6)
  else
   need (IsU8 (IntKind.wrap .u8 (r16.length : Int))) <|
   need (IsU8 (IntKind.wrap .u8 (IntKind.wrap .i64 ((r16.length : Int).tdiv 256)))) <|
   need (IsU8 (IntKind.wrap .u8 (IntKind.wrap .i64 ((r16.length : Int).tdiv 65536)))) <|
   need (IsU8 0) <|
   need ([85].length + [u8 (IntKind.wrap .u8 (r16.length : Int)), u8 (IntKind.wrap .u8 (IntKind.wrap .i64 ((r16.length : Int).tdiv 256))), u8 (IntKind.wrap .u8 (IntKind.wrap .i64 ((r16.length : Int).tdiv 65536))), u8 0].length ≤ 9223372036854775807) <|
   letO ([85] ++ [u8 (IntKind.wrap .u8 (r16.length : Int)), u8 (IntKind.wrap .u8 (IntKind.wrap .i64 ((r16.length : Int).tdiv 256))), u8 (IntKind.wrap .u8 (IntKind.wrap .i64 ((r16.length : Int).tdiv 65536))), u8 0]) fun x22 =>
   need (x22.length + r16.length ≤ 9223372036854775807) <|
   (mewsref14.Seal (x22 ++ r16)).bind fun r24 =>
   some (r24, 0)

structure mewsref18.Bytes.S0 where
 s : List UInt8
 i : Int

def mewsref18.Bytes.body0 (l : List api.Unit) (s83 : mewsref18.Bytes.S0) : Option (mewsref18.Bytes.S0 ⊕ ((List UInt8) ⊕ ((List UInt8) × Int))) :=
 if s83.i < (l.length : Int) then
  need (InB s83.i l.length) <|
  (mewsref15.Put (ix l s83.i)).bind fun r88 =>
  if r88.2 = 0 then
   need (s83.s.length + r88.1.length ≤ 9223372036854775807) <|
   some (.inl ⟨s83.s ++ r88.1, IntKind.wrap .i64 (s83.i + 1)⟩)
  else
   some (.inr (.inr (([] : List UInt8), r88.2)))
 else
  some (.inr (.inl s83.s))

def mewsref18.Bytes.loop0 (l : List api.Unit) (s83 : mewsref18.Bytes.S0) : Option ((List UInt8) ⊕ ((List UInt8) × Int)) := whileO (mewsref18.Bytes.body0 l) s83

def mewsref18.Bytes (l : List api.Unit) : Option ((List UInt8) × Int) :=
 (mewsref18.Bytes.loop0 l ⟨([] : List UInt8), 0⟩).bind fun s92 => onSum s92 (fun s68 =>
  some (s68, 0)) fun s92x => some s92x

structure mewsref15.Same.S0 where
 i : Int

structure mewsref15.Same.S2 where
 k : Int

def mewsref15.Same.body2 (s748 : mewsref15.Same.S0) (a : api.Unit) (b : api.Unit) (s803 : mewsref15.Same.S2) : Option (mewsref15.Same.S2 ⊕ (Unit ⊕ (mewsref15.Same.S0 ⊕ (Unit ⊕ Bool)))) :=
 need (InB s748.i a.Cmds.length) <|
 if s803.k < ((ix a.Cmds s748.i).length : Int) then
  need (InB s748.i a.Cmds.length) <|
  need (InB s803.k (ix a.Cmds s748.i).length) <|
  need (InB s748.i b.Cmds.length) <|
  need (InB s803.k (ix b.Cmds s748.i).length) <|
  if (ix (ix a.Cmds s748.i) s803.k) = (ix (ix b.Cmds s748.i) s803.k) then
   some (.inl ⟨IntKind.wrap .i64 (s803.k + 1)⟩)
  else
   some (.inr (.inr (.inr (.inr false))))
 else
  some (.inr (.inl ()))

def mewsref15.Same.loop2 (s748 : mewsref15.Same.S0) (a : api.Unit) (b : api.Unit) (s803 : mewsref15.Same.S2) : Option (Unit ⊕ (mewsref15.Same.S0 ⊕ (Unit ⊕ Bool))) := whileO (mewsref15.Same.body2 s748 a b) s803

def mewsref15.Same.body0 (a : api.Unit) (b : api.Unit) (s748 : mewsref15.Same.S0) : Option (mewsref15.Same.S0 ⊕ (Unit ⊕ Bool)) :=
 if s748.i < (a.Cmds.length : Int) then
  (
   need (InB s748.i a.Cmds.length) <|
   need (InB s748.i b.Cmds.length) <|
   if ((ix a.Cmds s748.i).length : Int) = ((ix b.Cmds s748.i).length : Int) then
    mewsref15.Same.loop2 s748 a b ⟨0⟩
   else
    some (.inr (.inr (.inr false)))).bind fun s815 => onSum s815 (fun s782 =>
   some (.inl ⟨IntKind.wrap .i64 (s748.i + 1)⟩)) fun s815x => some s815x
 else
  some (.inr (.inl ()))

def mewsref15.Same.loop0 (a : api.Unit) (b : api.Unit) (s748 : mewsref15.Same.S0) : Option (Unit ⊕ Bool) := whileO (mewsref15.Same.body0 a b) s748

def mewsref15.Same (a : api.Unit) (b : api.Unit) : Option Bool :=
 if (a.Cmds.length : Int) = (b.Cmds.length : Int) then
  (mewsref15.Same.loop0 a b ⟨0⟩).bind fun s817 => onSum s817 (fun s613 =>
   some true) fun s817x => some s817x
 else
  some false

structure mewsref15.SameAll.S0 where
 i : Int

def mewsref15.SameAll.body0 (a : List api.Unit) (b : List api.Unit) (s84 : mewsref15.SameAll.S0) : Option (mewsref15.SameAll.S0 ⊕ (Unit ⊕ Bool)) :=
 if s84.i < (a.length : Int) then
  need (InB s84.i a.length) <|
  need (InB s84.i b.length) <|
  (mewsref15.Same (ix a s84.i) (ix b s84.i)).bind fun r90 =>
  if (!r90) = true then
   some (.inr (.inr false))
  else
   some (.inl ⟨IntKind.wrap .i64 (s84.i + 1)⟩)
 else
  some (.inr (.inl ()))

def mewsref15.SameAll.loop0 (a : List api.Unit) (b : List api.Unit) (s84 : mewsref15.SameAll.S0) : Option (Unit ⊕ Bool) := whileO (mewsref15.SameAll.body0 a b) s84

def mewsref15.SameAll (a : List api.Unit) (b : List api.Unit) : Option Bool :=
 if (a.length : Int) = (b.length : Int) then
  (mewsref15.SameAll.loop0 a b ⟨0⟩).bind fun s93 => onSum s93 (fun s69 =>
   some true) fun s93x => some s93x
 else
  some false

def mewsref16.between (n_ : Int) (most : Int) : Option Int :=
 if n_ < 0 then
  some 0
 else
  if most < n_ then
   some most
  else
   some n_

structure mewsref16.Find.S0 where
 i : Int

def mewsref16.Find.body0 (d : api.Disk) (name : List UInt8) (s87 : mewsref16.Find.S0) : Option (mewsref16.Find.S0 ⊕ (Unit ⊕ (api.File × Bool))) :=
 if s87.i < (d.Files.length : Int) then
  need (InB s87.i d.Files.length) <|
  if (ix d.Files s87.i).Name = name then
   (mewsref16.between (ix d.Files s87.i).Synced ((ix d.Files s87.i).Data.length : Int)).bind fun r93 =>
   some (.inr (.inr ({ (ix d.Files s87.i) with Synced := r93 }, true)))
  else
   some (.inl ⟨IntKind.wrap .i64 (s87.i + 1)⟩)
 else
  some (.inr (.inl ()))

def mewsref16.Find.loop0 (d : api.Disk) (name : List UInt8) (s87 : mewsref16.Find.S0) : Option (Unit ⊕ (api.File × Bool)) := whileO (mewsref16.Find.body0 d name) s87

def mewsref16.Find (d : api.Disk) (name : List UInt8) : Option (api.File × Bool) :=
 (mewsref16.Find.loop0 d name ⟨0⟩).bind fun s96 => onSum s96 (fun s72 =>
  some (({ Name := ([] : List UInt8), Data := ([] : List UInt8), Synced := 0 } : api.File), false)) fun s96x => some s96x

structure mewsref16.Files.S0 where
 out : List api.File
 i : Int

structure mewsref16.Files.S2 where
 met : Bool
 k : Int

def mewsref16.Files.body2 (s1794 : mewsref16.Files.S0) (d : api.Disk) (s1937 : mewsref16.Files.S2) : Option (mewsref16.Files.S2 ⊕ Bool) :=
 if s1937.k < s1794.i then
  (
   if s1937.met = true then
    some true
   else
    need (InB s1937.k d.Files.length) <|
    need (InB s1794.i d.Files.length) <|
    some (decide ((ix d.Files s1937.k).Name = (ix d.Files s1794.i).Name))).bind fun s1944 =>
  some (.inl ⟨s1944, IntKind.wrap .i64 (s1937.k + 1)⟩)
 else
  some (.inr s1937.met)

def mewsref16.Files.loop2 (s1794 : mewsref16.Files.S0) (d : api.Disk) (s1937 : mewsref16.Files.S2) : Option Bool := whileO (mewsref16.Files.body2 s1794 d) s1937

def mewsref16.Files.body0 (d : api.Disk) (s1794 : mewsref16.Files.S0) : Option (mewsref16.Files.S0 ⊕ (List api.File)) :=
 if s1794.i < (d.Files.length : Int) then
  (
   (mewsref16.Files.loop2 s1794 d ⟨false, 0⟩).bind fun s1914 =>
   if (!s1914) = true then
    need (InB s1794.i d.Files.length) <|
    (mewsref16.Find d (ix d.Files s1794.i).Name).bind fun r1952 =>
    need ((s1794.out.length + [r1952.1].length) * 40 ≤ 140737488355328) <|
    some (s1794.out ++ [r1952.1])
   else
    some s1794.out).bind fun s1876 =>
  some (.inl ⟨s1876, IntKind.wrap .i64 (s1794.i + 1)⟩)
 else
  some (.inr s1794.out)

def mewsref16.Files.loop0 (d : api.Disk) (s1794 : mewsref16.Files.S0) : Option (List api.File) := whileO (mewsref16.Files.body0 d) s1794

def mewsref16.Files (d : api.Disk) : Option (List api.File) :=
 (mewsref16.Files.loop0 d ⟨([] : List api.File), 0⟩).bind fun s1468 =>
 some s1468

structure mewsref16.Remove.S0 where
 i : Int
 c : List api.File

def mewsref16.Remove.body0 (r123 : List api.File) (name : List UInt8) (s218 : mewsref16.Remove.S0) : Option (mewsref16.Remove.S0 ⊕ (List api.File)) :=
 if s218.i < (r123.length : Int) then
  (
   need (InB s218.i r123.length) <|
   if (ix r123 s218.i).Name = name then
    some s218.c
   else
    need (InB s218.i r123.length) <|
    need ((s218.c.length + [(ix r123 s218.i)].length) * 40 ≤ 140737488355328) <|
    some (s218.c ++ [(ix r123 s218.i)])).bind fun s228 =>
  some (.inl ⟨IntKind.wrap .i64 (s218.i + 1), s228⟩)
 else
  some (.inr s218.c)

def mewsref16.Remove.loop0 (r123 : List api.File) (name : List UInt8) (s218 : mewsref16.Remove.S0) : Option (List api.File) := whileO (mewsref16.Remove.body0 r123 name) s218

def mewsref16.Remove (d : api.Disk) (name : List UInt8) : Option api.Disk :=
 (mewsref16.Files d).bind fun r123 =>
 (mewsref16.Remove.loop0 r123 name ⟨0, ([] : List api.File)⟩).bind fun s180 =>
 some { d with Files := s180 }

def mewsref05.between (n_ : Int) (most : Int) : Option Int :=
 if n_ < 1 then
  some 1
 else
  if most < n_ then
   some most
  else
   some n_

def mewsref05.Limits (l : api.Limits) : Option api.Limits :=
 (mewsref05.between l.Args 65536).bind fun r8 =>
 (mewsref05.between l.Bulk 1048576).bind fun r9 =>
 (mewsref05.between l.Line 65536).bind fun r10 =>
 some ({ Args := r8, Bulk := r9, Line := r10 } : api.Limits)

structure mewsref01.Parse.S0 where
 n : Int
 i : Int

def mewsref01.Parse.body0 (s_ : List UInt8) (s309 : Bool) (s550 : mewsref01.Parse.S0) : Option (mewsref01.Parse.S0 ⊕ (Int ⊕ (Int × Bool))) :=
 if s550.i < (s_.length : Int) then
  (
   letO (
    if s550.i = 0 then
     s309
    else
     false) fun s578 =>
   if s578 = true then
    some (.inl s550.n)
   else
    (
     need (InB s550.i s_.length) <|
     if (bix s_ s550.i) < 48 then
      some true
     else
      need (InB s550.i s_.length) <|
      some (decide (57 < (bix s_ s550.i)))).bind fun s585 =>
    if s585 = true then
     some (.inr (.inr (.inr (0, false))))
    else
     need (InB s550.i s_.length) <|
     letO (IntKind.wrap .i64 ((IntKind.wrap .i64 ((-9223372036854775808) + (IntKind.wrap .i64 (IntKind.wrap .u8 ((bix s_ s550.i) - 48))))).tdiv 10)) fun x592 =>
     if s550.n < x592 then
      some (.inr (.inr (.inr (0, false))))
     else
      letO (IntKind.wrap .i64 ((IntKind.wrap .i64 (s550.n * 10)) - (IntKind.wrap .i64 (IntKind.wrap .u8 ((bix s_ s550.i) - 48))))) fun x593 =>
      some (.inl x593)).bind fun s597 => onSum s597 (fun s574 =>
   some (.inl ⟨s574, IntKind.wrap .i64 (s550.i + 1)⟩)) fun s597x => some s597x
 else
  some (.inr (.inl s550.n))

def mewsref01.Parse.loop0 (s_ : List UInt8) (s309 : Bool) (s550 : mewsref01.Parse.S0) : Option (Int ⊕ (Int × Bool)) := whileO (mewsref01.Parse.body0 s_ s309) s550

def mewsref01.Parse (s_ : List UInt8) : Option (Int × Bool) :=
 (
  if 0 < (s_.length : Int) then
   need (InB 0 s_.length) <|
   some (decide ((bix s_ 0) = 45))
  else
   some false).bind fun s309 =>
 (mewsref01.Parse.loop0 s_ s309 ⟨0, 0⟩).bind fun s612 => onSum s612 (fun s455 =>
  letO (
   if (!s309) = true then
    decide (s455 = (-9223372036854775808))
   else
    false) fun s600 =>
  if s600 = true then
   some (0, false)
  else
   letO (
    if (!s309) = true then
     IntKind.wrap .i64 (0 - s455)
    else
     s455) fun s605 =>
   (mewsref01.Text s605).bind fun r609 =>
   if r609 = s_ then
    some (s605, true)
   else
    some (0, false)) fun s612x => some s612x

structure mewsref05.first.S0 where
 digits : Int

def mewsref05.first.body0 (s_ : List UInt8) (most : Int) (over : Int) (s355 : mewsref05.first.S0) : Option (mewsref05.first.S0 ⊕ (Int ⊕ (Int × Int × Int))) :=
 (
  if s355.digits < (s_.length : Int) then
   need (InB s355.digits s_.length) <|
   if 48 ≤ (bix s_ s355.digits) then
    need (InB s355.digits s_.length) <|
    some (decide ((bix s_ s355.digits) ≤ 57))
   else
    some false
  else
   some false).bind fun s363 =>
 if s363 = true then
  need (InR 1 (IntKind.wrap .i64 (s355.digits + 1)) s_.length) <|
  (mewsref01.Parse (sub s_ 1 (IntKind.wrap .i64 (s355.digits + 1)))).bind fun r371 =>
  (
   if (!r371.2) = true then
    need (InB 1 s_.length) <|
    some (decide ((bix s_ 1) = 48))
   else
    some false).bind fun s374 =>
  if s374 = true then
   some (.inr (.inr (0, 0, 5)))
  else
   letO (
    if (!r371.2) = true then
     true
    else
     decide (most < r371.1)) fun s380 =>
   if s380 = true then
    some (.inr (.inr (0, 0, over)))
   else
    some (.inl ⟨IntKind.wrap .i64 (s355.digits + 1)⟩)
 else
  some (.inr (.inl s355.digits))

def mewsref05.first.loop0 (s_ : List UInt8) (most : Int) (over : Int) (s355 : mewsref05.first.S0) : Option (Int ⊕ (Int × Int × Int)) := whileO (mewsref05.first.body0 s_ most over) s355

def mewsref05.first (s_ : List UInt8) (mark : Int) (most : Int) (over : Int) : Option (Int × Int × Int) :=
 if s_ = ([] : List UInt8) then
  some (0, 0, (-1))
 else
  need (InB 0 s_.length) <|
  if (bix s_ 0) = mark then
   (mewsref05.first.loop0 s_ most over ⟨1⟩).bind fun s402 => onSum s402 (fun s294 =>
    need (InR 1 s294 s_.length) <|
    (mewsref01.Parse (sub s_ 1 s294)).bind fun r388 =>
    need (InR s294 (s_.length : Int) s_.length) <|
    if (sub s_ s294 (s_.length : Int)) = ([] : List UInt8) then
     some (0, 0, (-1))
    else
     (
      if s294 = 1 then
       some true
      else
       need (InB 0 (sub s_ s294 (s_.length : Int)).length) <|
       some (!decide ((bix (sub s_ s294 (s_.length : Int)) 0) = 13))).bind fun s392 =>
     if s392 = true then
      some (0, 0, 5)
     else
      if ((sub s_ s294 (s_.length : Int)).length : Int) = 1 then
       some (0, 0, (-1))
      else
       need (InB 1 (sub s_ s294 (s_.length : Int)).length) <|
       if (bix (sub s_ s294 (s_.length : Int)) 1) = 10 then
        some (r388.1, IntKind.wrap .i64 (s294 + 2), 0)
       else
        some (0, 0, 5)) fun s402x => some s402x
  else
   some (0, 0, 5)

structure mewsref05.ends.S0 where
 i : Int

def mewsref05.ends.body0 (s_ : List UInt8) (s83 : mewsref05.ends.S0) : Option (mewsref05.ends.S0 ⊕ (Unit ⊕ Int)) :=
 if s83.i < 2 then
  if (s_.length : Int) ≤ s83.i then
   some (.inr (.inr (-1)))
  else
   need (InB s83.i s_.length) <|
   need (InB s83.i [13, 10].length) <|
   if (bix s_ s83.i) = (bix [13, 10] s83.i) then
    some (.inl ⟨IntKind.wrap .i64 (s83.i + 1)⟩)
   else
    some (.inr (.inr 5))
 else
  some (.inr (.inl ()))

def mewsref05.ends.loop0 (s_ : List UInt8) (s83 : mewsref05.ends.S0) : Option (Unit ⊕ Int) := whileO (mewsref05.ends.body0 s_) s83

def mewsref05.ends (s_ : List UInt8) : Option Int :=
 (mewsref05.ends.loop0 s_ ⟨0⟩).bind fun s92 => onSum s92 (fun s68 =>
  some 0) fun s92x => some s92x

structure mewsref05.many.S0 where
 c : List (List UInt8)
 c2 : Int
 c3 : Int

def mewsref05.many.body0 (s_ : List UInt8) (l : api.Limits) (s291 : mewsref05.many.S0) : Option (mewsref05.many.S0 ⊕ (((List (List UInt8)) × Int × Int) ⊕ (api.Input × Int))) :=
 if 0 < s291.c2 then
  need (InR s291.c3 (s_.length : Int) s_.length) <|
  (mewsref05.first (sub s_ s291.c3 (s_.length : Int)) 36 l.Bulk 6).bind fun r297 =>
  if r297.2.2 = 0 then
   need (InR (IntKind.wrap .i64 (s291.c3 + r297.2.1)) (s_.length : Int) s_.length) <|
   (
    if r297.1 ≤ ((sub s_ (IntKind.wrap .i64 (s291.c3 + r297.2.1)) (s_.length : Int)).length : Int) then
     need (InR r297.1 ((sub s_ (IntKind.wrap .i64 (s291.c3 + r297.2.1)) (s_.length : Int)).length : Int) (sub s_ (IntKind.wrap .i64 (s291.c3 + r297.2.1)) (s_.length : Int)).length) <|
     letO (sub (sub s_ (IntKind.wrap .i64 (s291.c3 + r297.2.1)) (s_.length : Int)) r297.1 ((sub s_ (IntKind.wrap .i64 (s291.c3 + r297.2.1)) (s_.length : Int)).length : Int)) fun x308 =>
     (mewsref05.ends x308).bind fun r309 =>
     some r309
    else
     some (-1)).bind fun s304 =>
   if s304 = 0 then
    need (InR 0 r297.1 (sub s_ (IntKind.wrap .i64 (s291.c3 + r297.2.1)) (s_.length : Int)).length) <|
    letO (sub (sub s_ (IntKind.wrap .i64 (s291.c3 + r297.2.1)) (s_.length : Int)) 0 r297.1) fun x312 =>
    need ((s291.c.length + [x312].length) * 16 ≤ 140737488355328) <|
    some (.inl ⟨s291.c ++ [x312], IntKind.wrap .i64 (s291.c2 - 1), IntKind.wrap .i64 ((IntKind.wrap .i64 (s291.c3 + r297.2.1)) + (IntKind.wrap .i64 (r297.1 + 2)))⟩)
   else
    some (.inr (.inr (({ Rest := sub s_ (IntKind.wrap .i64 (s291.c3 + r297.2.1)) (s_.length : Int), Args := s291.c, Left := s291.c2, Size := IntKind.wrap .i64 (s291.c3 + r297.2.1), Body := true, Need := r297.1, Dead := 0 } : api.Input), s304)))
  else
   need (InR s291.c3 (s_.length : Int) s_.length) <|
   some (.inr (.inr (({ Rest := sub s_ s291.c3 (s_.length : Int), Args := s291.c, Left := s291.c2, Size := s291.c3, Body := false, Need := 0, Dead := 0 } : api.Input), r297.2.2)))
 else
  some (.inr (.inl (s291.c, s291.c2, s291.c3)))

def mewsref05.many.loop0 (s_ : List UInt8) (l : api.Limits) (s291 : mewsref05.many.S0) : Option (((List (List UInt8)) × Int × Int) ⊕ (api.Input × Int)) := whileO (mewsref05.many.body0 s_ l) s291

def mewsref05.many (s_ : List UInt8) (l : api.Limits) : Option (api.Input × Int) :=
 (mewsref05.first s_ 42 l.Args 7).bind fun r163 =>
 if r163.2.2 = 0 then
  (mewsref05.many.loop0 s_ l ⟨([] : List (List UInt8)), r163.1, r163.2.1⟩).bind fun s319 => onSum s319 (fun s240 =>
   some (({ Rest := ([] : List UInt8), Args := s240.1, Left := s240.2.1, Size := s240.2.2, Body := false, Need := 0, Dead := 0 } : api.Input), 0)) fun s319x => some s319x
 else
  some (({ Rest := s_, Args := ([] : List (List UInt8)), Left := 0, Size := 0, Body := false, Need := 0, Dead := 0 } : api.Input), r163.2.2)

structure mewsref04.digit.S0 where
 i : Int

def mewsref04.digit.body0 (c_ : Int) (s149 : mewsref04.digit.S0) : Option (mewsref04.digit.S0 ⊕ (Unit ⊕ Int)) :=
 if s149.i < 16 then
  (
   need (InB s149.i [48, 49, 50, 51, 52, 53, 54, 55, 56, 57, 97, 98, 99, 100, 101, 102].length) <|
   if (bix [48, 49, 50, 51, 52, 53, 54, 55, 56, 57, 97, 98, 99, 100, 101, 102] s149.i) = c_ then
    some true
   else
    need (InB s149.i [48, 49, 50, 51, 52, 53, 54, 55, 56, 57, 65, 66, 67, 68, 69, 70].length) <|
    some (decide ((bix [48, 49, 50, 51, 52, 53, 54, 55, 56, 57, 65, 66, 67, 68, 69, 70] s149.i) = c_))).bind fun s156 =>
  if s156 = true then
   some (.inr (.inr s149.i))
  else
   some (.inl ⟨IntKind.wrap .i64 (s149.i + 1)⟩)
 else
  some (.inr (.inl ()))

def mewsref04.digit.loop0 (c_ : Int) (s149 : mewsref04.digit.S0) : Option (Unit ⊕ Int) := whileO (mewsref04.digit.body0 c_) s149

def mewsref04.digit (c_ : Int) : Option Int :=
 (mewsref04.digit.loop0 c_ ⟨0⟩).bind fun s164 => onSum s164 (fun s122 =>
  some 16) fun s164x => some s164x

structure mewsref04.turned.S0 where
 i : Int

def mewsref04.turned.body0 (c_ : Int) (s72 : mewsref04.turned.S0) : Option (mewsref04.turned.S0 ⊕ (Unit ⊕ Int)) :=
 if s72.i < ([110, 114, 116, 98, 97].length : Int) then
  need (InB s72.i [110, 114, 116, 98, 97].length) <|
  if (bix [110, 114, 116, 98, 97] s72.i) = c_ then
   need (InB s72.i [10, 13, 9, 8, 7].length) <|
   some (.inr (.inr (bix [10, 13, 9, 8, 7] s72.i)))
  else
   some (.inl ⟨IntKind.wrap .i64 (s72.i + 1)⟩)
 else
  some (.inr (.inl ()))

def mewsref04.turned.loop0 (c_ : Int) (s72 : mewsref04.turned.S0) : Option (Unit ⊕ Int) := whileO (mewsref04.turned.body0 c_) s72

def mewsref04.turned (c_ : Int) : Option Int :=
 (mewsref04.turned.loop0 c_ ⟨0⟩).bind fun s80 => onSum s80 (fun s59 =>
  some c_) fun s80x => some s80x

structure mewsref04.Split.S0 where
 out : List (List UInt8)
 in_ : Int
 open_ : Bool
 closed : Bool
 now : List UInt8
 i : Int

def mewsref04.Split.body0 (s_ : List UInt8) (s3033 : mewsref04.Split.S0) : Option (mewsref04.Split.S0 ⊕ (((List (List UInt8)) × Int × Bool × (List UInt8)) ⊕ ((List (List UInt8)) × Bool))) :=
 if s3033.i < (s_.length : Int) then
  (
   need (InB s3033.i s_.length) <|
   letO (
    if (bix s_ s3033.i) = 32 then
     true
    else
     decide ((bix s_ s3033.i) = 9)) fun s3142 =>
   letO (
    if s3033.closed = true then
     (!s3142)
    else
     false) fun s3147 =>
   if s3147 = true then
    some (.inr (.inr (.inr (([] : List (List UInt8)), false))))
   else
    letO (
     if s3033.in_ = 0 then
      s3142
     else
      false) fun s3153 =>
    if s3153 = true then
     (
      if s3033.open_ = true then
       need ((s3033.out.length + [s3033.now].length) * 16 ≤ 140737488355328) <|
       some (s3033.out ++ [s3033.now])
      else
       some s3033.out).bind fun s3160 =>
     some (.inl (s3160, s3033.in_, false, false, ([] : List UInt8), s3033.i))
    else
     letO (
      if s3033.in_ = 0 then
       if (bix s_ s3033.i) = 34 then
        true
       else
        decide ((bix s_ s3033.i) = 39)
      else
       false) fun s3169 =>
     if s3169 = true then
      some (.inl (s3033.out, bix s_ s3033.i, true, false, s3033.now, s3033.i))
     else
      if s3033.in_ = 0 then
       need (InR s3033.i (IntKind.wrap .i64 (s3033.i + 1)) s_.length) <|
       need (s3033.now.length + (sub s_ s3033.i (IntKind.wrap .i64 (s3033.i + 1))).length ≤ 9223372036854775807) <|
       some (.inl (s3033.out, s3033.in_, true, false, s3033.now ++ (sub s_ s3033.i (IntKind.wrap .i64 (s3033.i + 1))), s3033.i))
      else
       if (bix s_ s3033.i) = s3033.in_ then
        some (.inl (s3033.out, 0, s3033.open_, true, s3033.now, s3033.i))
       else
        (
         if (bix s_ s3033.i) = 92 then
          if s3033.in_ = 34 then
           if (IntKind.wrap .i64 (s3033.i + 3)) < (s_.length : Int) then
            need (InB (IntKind.wrap .i64 (s3033.i + 1)) s_.length) <|
            if (bix s_ (IntKind.wrap .i64 (s3033.i + 1))) = 120 then
             need (InB (IntKind.wrap .i64 (s3033.i + 2)) s_.length) <|
             (mewsref04.digit (bix s_ (IntKind.wrap .i64 (s3033.i + 2)))).bind fun r3195 =>
             if r3195 < 16 then
              need (InB (IntKind.wrap .i64 (s3033.i + 3)) s_.length) <|
              (mewsref04.digit (bix s_ (IntKind.wrap .i64 (s3033.i + 3)))).bind fun r3198 =>
              some (decide (r3198 < 16))
             else
              some false
            else
             some false
           else
            some false
          else
           some false
         else
          some false).bind fun s3186 =>
        if s3186 = true then
         need (InB (IntKind.wrap .i64 (s3033.i + 2)) s_.length) <|
         (mewsref04.digit (bix s_ (IntKind.wrap .i64 (s3033.i + 2)))).bind fun r3200 =>
         need (InB (IntKind.wrap .i64 (s3033.i + 3)) s_.length) <|
         (mewsref04.digit (bix s_ (IntKind.wrap .i64 (s3033.i + 3)))).bind fun r3202 =>
         need (IsU8 (IntKind.wrap .u8 (IntKind.wrap .i64 ((IntKind.wrap .i64 (16 * r3200)) + r3202)))) <|
         need (s3033.now.length + [u8 (IntKind.wrap .u8 (IntKind.wrap .i64 ((IntKind.wrap .i64 (16 * r3200)) + r3202)))].length ≤ 9223372036854775807) <|
         letO (s3033.now ++ [u8 (IntKind.wrap .u8 (IntKind.wrap .i64 ((IntKind.wrap .i64 (16 * r3200)) + r3202)))]) fun x3205 =>
         some (.inl (s3033.out, s3033.in_, s3033.open_, false, x3205, IntKind.wrap .i64 (s3033.i + 3)))
        else
         letO (
          if (bix s_ s3033.i) = 92 then
           if s3033.in_ = 34 then
            decide ((IntKind.wrap .i64 (s3033.i + 1)) < (s_.length : Int))
           else
            false
          else
           false) fun s3208 =>
         if s3208 = true then
          need (InB (IntKind.wrap .i64 (s3033.i + 1)) s_.length) <|
          (mewsref04.turned (bix s_ (IntKind.wrap .i64 (s3033.i + 1)))).bind fun r3214 =>
          need (IsU8 r3214) <|
          need (s3033.now.length + [u8 r3214].length ≤ 9223372036854775807) <|
          some (.inl (s3033.out, s3033.in_, s3033.open_, false, s3033.now ++ [u8 r3214], IntKind.wrap .i64 (s3033.i + 1)))
         else
          (
           if (bix s_ s3033.i) = 92 then
            if s3033.in_ = 39 then
             if (IntKind.wrap .i64 (s3033.i + 1)) < (s_.length : Int) then
              need (InB (IntKind.wrap .i64 (s3033.i + 1)) s_.length) <|
              some (decide ((bix s_ (IntKind.wrap .i64 (s3033.i + 1))) = 39))
             else
              some false
            else
             some false
           else
            some false).bind fun s3221 =>
          if s3221 = true then
           need (s3033.now.length + [39].length ≤ 9223372036854775807) <|
           some (.inl (s3033.out, s3033.in_, s3033.open_, false, s3033.now ++ [39], IntKind.wrap .i64 (s3033.i + 1)))
          else
           need (InR s3033.i (IntKind.wrap .i64 (s3033.i + 1)) s_.length) <|
           need (s3033.now.length + (sub s_ s3033.i (IntKind.wrap .i64 (s3033.i + 1))).length ≤ 9223372036854775807) <|
           some (.inl (s3033.out, s3033.in_, s3033.open_, false, s3033.now ++ (sub s_ s3033.i (IntKind.wrap .i64 (s3033.i + 1))), s3033.i))).bind fun s3239 => onSum s3239 (fun s3136 =>
   some (.inl ⟨s3136.1, s3136.2.1, s3136.2.2.1, s3136.2.2.2.1, s3136.2.2.2.2.1, IntKind.wrap .i64 (s3136.2.2.2.2.2 + 1)⟩)) fun s3239x => some s3239x
 else
  some (.inr (.inl (s3033.out, s3033.in_, s3033.open_, s3033.now)))

def mewsref04.Split.loop0 (s_ : List UInt8) (s3033 : mewsref04.Split.S0) : Option (((List (List UInt8)) × Int × Bool × (List UInt8)) ⊕ ((List (List UInt8)) × Bool)) := whileO (mewsref04.Split.body0 s_) s3033

def mewsref04.Split (s_ : List UInt8) : Option ((List (List UInt8)) × Bool) :=
 (mewsref04.Split.loop0 s_ ⟨([] : List (List UInt8)), 0, false, false, ([] : List UInt8), 0⟩).bind fun s3254 => onSum s3254 (fun s2432 =>
  if s2432.2.1 = 0 then
   (
    if s2432.2.2.1 = true then
     need ((s2432.1.length + [s2432.2.2.2].length) * 16 ≤ 140737488355328) <|
     some (s2432.1 ++ [s2432.2.2.2])
    else
     some s2432.1).bind fun s3246 =>
   some (s3246, true)
  else
   some (([] : List (List UInt8)), false)) fun s3254x => some s3254x

structure mewsref05.one.S0 where
 i : Int

structure mewsref05.one.S2 where
 k : Int

def mewsref05.one.body2 (r1652 : (List (List UInt8)) × Bool) (l : api.Limits) (s1680 : mewsref05.one.S2) : Option (mewsref05.one.S2 ⊕ (Unit ⊕ (Unit ⊕ (mewsref05.one.S0 ⊕ (Unit ⊕ (api.Input × Int)))))) :=
 if s1680.k < (r1652.1.length : Int) then
  need (InB s1680.k r1652.1.length) <|
  if l.Bulk < ((ix r1652.1 s1680.k).length : Int) then
   some (.inr (.inr (.inr (.inr (.inr (({ Rest := ([] : List UInt8), Args := ([] : List (List UInt8)), Left := 0, Size := 0, Body := false, Need := 0, Dead := 0 } : api.Input), 6))))))
  else
   some (.inl ⟨IntKind.wrap .i64 (s1680.k + 1)⟩)
 else
  some (.inr (.inl ()))

def mewsref05.one.loop2 (r1652 : (List (List UInt8)) × Bool) (l : api.Limits) (s1680 : mewsref05.one.S2) : Option (Unit ⊕ (Unit ⊕ (mewsref05.one.S0 ⊕ (Unit ⊕ (api.Input × Int))))) := whileO (mewsref05.one.body2 r1652 l) s1680

def mewsref05.one.body0 (s_ : List UInt8) (l : api.Limits) (s1551 : mewsref05.one.S0) : Option (mewsref05.one.S0 ⊕ (Unit ⊕ (api.Input × Int))) :=
 letO (
  if s1551.i < (s_.length : Int) then
   decide (s1551.i ≤ l.Line)
  else
   false) fun s1556 =>
 if s1556 = true then
  (
   need (InB s1551.i s_.length) <|
   if (bix s_ s1551.i) = 10 then
    need (InR 0 s1551.i s_.length) <|
    (
     (
      if 0 < s1551.i then
       need (InB (IntKind.wrap .i64 (s1551.i - 1)) (sub s_ 0 s1551.i).length) <|
       some (decide ((bix (sub s_ 0 s1551.i) (IntKind.wrap .i64 (s1551.i - 1))) = 13))
      else
       some false).bind fun s1644 =>
     if s1644 = true then
      need (InR 0 (IntKind.wrap .i64 (s1551.i - 1)) (sub s_ 0 s1551.i).length) <|
      letO (sub (sub s_ 0 s1551.i) 0 (IntKind.wrap .i64 (s1551.i - 1))) fun x1650 =>
      some x1650
     else
      some (sub s_ 0 s1551.i)).bind fun s1639 =>
    (mewsref04.Split s1639).bind fun r1652 =>
    if (!r1652.2) = true then
     some (.inr (.inr (.inr (({ Rest := ([] : List UInt8), Args := ([] : List (List UInt8)), Left := 0, Size := 0, Body := false, Need := 0, Dead := 0 } : api.Input), 16))))
    else
     if l.Args < (r1652.1.length : Int) then
      some (.inr (.inr (.inr (({ Rest := ([] : List UInt8), Args := ([] : List (List UInt8)), Left := 0, Size := 0, Body := false, Need := 0, Dead := 0 } : api.Input), 7))))
     else
      (mewsref05.one.loop2 r1652 l ⟨0⟩).bind fun s1687 => onSum s1687 (fun s1669 =>
       some (.inr (.inr (.inr (({ Rest := ([] : List UInt8), Args := r1652.1, Left := 0, Size := IntKind.wrap .i64 (s1551.i + 1), Body := false, Need := 0, Dead := 0 } : api.Input), 0))))) fun s1687x => some s1687x
   else
    some (.inl ())).bind fun s1691 => onSum s1691 (fun s1624 =>
   some (.inl ⟨IntKind.wrap .i64 (s1551.i + 1)⟩)) fun s1691x => some s1691x
 else
  some (.inr (.inl ()))

def mewsref05.one.loop0 (s_ : List UInt8) (l : api.Limits) (s1551 : mewsref05.one.S0) : Option (Unit ⊕ (api.Input × Int)) := whileO (mewsref05.one.body0 s_ l) s1551

def mewsref05.one (s_ : List UInt8) (l : api.Limits) : Option (api.Input × Int) :=
 (mewsref05.one.loop0 s_ l ⟨0⟩).bind fun s1694 => onSum s1694 (fun s1270 =>
  if l.Line < (s_.length : Int) then
   some (({ Rest := ([] : List UInt8), Args := ([] : List (List UInt8)), Left := 0, Size := 0, Body := false, Need := 0, Dead := 0 } : api.Input), 6)
  else
   some (({ Rest := s_, Args := ([] : List (List UInt8)), Left := 0, Size := 0, Body := false, Need := 0, Dead := 0 } : api.Input), (-1))) fun s1694x => some s1694x

structure mewsref05.All.S0 where
 s : List UInt8
 out : List api.Request

def mewsref05.All.body0 (r187 : api.Limits) (s336 : mewsref05.All.S0) : Option (mewsref05.All.S0 ⊕ ((List api.Request) ⊕ (api.Input × (List api.Request)))) :=
 if s336.s = ([] : List UInt8) then
  some (.inr (.inl s336.out))
 else
  (
   need (InB 0 s336.s.length) <|
   if (bix s336.s 0) = 42 then
    (mewsref05.many s336.s r187).bind fun r350 =>
    some (r350.2, r350.1.Rest, r350.1.Args, r350.1.Left, r350.1.Size, r350.1.Body, r350.1.Need, r350.1.Dead)
   else
    (mewsref05.one s336.s r187).bind fun r351 =>
    some (r351.2, r351.1.Rest, r351.1.Args, r351.1.Left, r351.1.Size, r351.1.Body, r351.1.Need, r351.1.Dead)).bind fun s346 =>
  if s346.1 = (-1) then
   some (.inr (.inr (({ Rest := s346.2.1, Args := s346.2.2.1, Left := s346.2.2.2.1, Size := s346.2.2.2.2.1, Body := s346.2.2.2.2.2.1, Need := s346.2.2.2.2.2.2.1, Dead := s346.2.2.2.2.2.2.2 } : api.Input), s336.out)))
  else
   if s346.1 = 0 then
    (
     if 0 < (s346.2.2.1.length : Int) then
      need ((s336.out.length + [({ Args := s346.2.2.1, Size := s346.2.2.2.2.1 } : api.Request)].length) * 32 ≤ 140737488355328) <|
      some (s336.out ++ [({ Args := s346.2.2.1, Size := s346.2.2.2.2.1 } : api.Request)])
     else
      some s336.out).bind fun s356 =>
    need (InR s346.2.2.2.2.1 (s336.s.length : Int) s336.s.length) <|
    some (.inl ⟨sub s336.s s346.2.2.2.2.1 (s336.s.length : Int), s356⟩)
   else
    some (.inr (.inr (({ Rest := ([] : List UInt8), Args := ([] : List (List UInt8)), Left := 0, Size := 0, Body := false, Need := 0, Dead := s346.1 } : api.Input), s336.out)))

def mewsref05.All.loop0 (r187 : api.Limits) (s336 : mewsref05.All.S0) : Option ((List api.Request) ⊕ (api.Input × (List api.Request))) := whileO (mewsref05.All.body0 r187) s336

def mewsref05.All (s_ : List UInt8) (l : api.Limits) : Option (api.Input × (List api.Request)) :=
 (mewsref05.Limits l).bind fun r187 =>
 (mewsref05.All.loop0 r187 ⟨s_, ([] : List api.Request)⟩).bind fun s368 => onSum s368 (fun s276 =>
  some (({ Rest := ([] : List UInt8), Args := ([] : List (List UInt8)), Left := 0, Size := 0, Body := false, Need := 0, Dead := 0 } : api.Input), s276)) fun s368x => some s368x

structure mewsref15.Take.S0 where
 n : Int
 i : Int

def mewsref15.Take.body0 (s_ : List UInt8) (s125 : mewsref15.Take.S0) : Option (mewsref15.Take.S0 ⊕ Int) :=
 if 1 ≤ s125.i then
  need (InB s125.i s_.length) <|
  some (.inl ⟨IntKind.wrap .i64 ((IntKind.wrap .i64 (s125.n * 256)) + (IntKind.wrap .i64 (bix s_ s125.i))), IntKind.wrap .i64 (s125.i - 1)⟩)
 else
  some (.inr s125.n)

def mewsref15.Take.loop0 (s_ : List UInt8) (s125 : mewsref15.Take.S0) : Option Int := whileO (mewsref15.Take.body0 s_) s125

structure mewsref15.Take.S2 where
 i : Int
 c : List (List (List UInt8))

def mewsref15.Take.body2 (r135 : api.Input × (List api.Request)) (s175 : mewsref15.Take.S2) : Option (mewsref15.Take.S2 ⊕ (List (List (List UInt8)))) :=
 if s175.i < (r135.2.length : Int) then
  need (InB s175.i r135.2.length) <|
  need ((s175.c.length + [(ix r135.2 s175.i).Args].length) * 24 ≤ 140737488355328) <|
  some (.inl ⟨IntKind.wrap .i64 (s175.i + 1), s175.c ++ [(ix r135.2 s175.i).Args]⟩)
 else
  some (.inr s175.c)

def mewsref15.Take.loop2 (r135 : api.Input × (List api.Request)) (s175 : mewsref15.Take.S2) : Option (List (List (List UInt8))) := whileO (mewsref15.Take.body2 r135) s175

def mewsref15.Take (s_ : List UInt8) : Option (api.Unit × Int × Int) :=
 if s_ = ([] : List UInt8) then
  some (({ Cmds := ([] : List (List (List UInt8))) } : api.Unit), 0, 4)
 else
  need (InB 0 s_.length) <|
  if (bix s_ 0) = 85 then
   if (s_.length : Int) < 5 then
    some (({ Cmds := ([] : List (List (List UInt8))) } : api.Unit), 0, 4)
   else
    (mewsref15.Take.loop0 s_ ⟨0, 4⟩).bind fun s116 =>
    if 4194304 < s116 then
     some (({ Cmds := ([] : List (List (List UInt8))) } : api.Unit), 0, 6)
    else
     if (s_.length : Int) < (IntKind.wrap .i64 (s116 + 9)) then
      some (({ Cmds := ([] : List (List (List UInt8))) } : api.Unit), 0, 4)
     else
      need (InR 0 (IntKind.wrap .i64 (s116 + 5)) s_.length) <|
      (mewsref14.Seal (sub s_ 0 (IntKind.wrap .i64 (s116 + 5)))).bind fun r132 =>
      need (InR 0 (IntKind.wrap .i64 (s116 + 9)) s_.length) <|
      if r132 = (sub s_ 0 (IntKind.wrap .i64 (s116 + 9))) then
       need (InR 5 (IntKind.wrap .i64 (s116 + 5)) s_.length) <|
       (mewsref05.All (sub s_ 5 (IntKind.wrap .i64 (s116 + 5))) ({ Args := 65536, Bulk := 1048576, Line := 1 } : api.Limits)).bind fun r135 =>
       (mewsref15.Take.loop2 r135 ⟨0, ([] : List (List (List UInt8)))⟩).bind fun s160 =>
       (
        (mewsref15.May ({ Cmds := s160 } : api.Unit)).bind fun r192 =>
        if (!r192) = true then
         some true
        else
         (mewsref15.load ({ Cmds := s160 } : api.Unit)).bind fun r194 =>
         need (InR 5 (IntKind.wrap .i64 (s116 + 5)) s_.length) <|
         some (!decide (r194 = (sub s_ 5 (IntKind.wrap .i64 (s116 + 5)))))).bind fun s189 =>
       if s189 = true then
        some (({ Cmds := ([] : List (List (List UInt8))) } : api.Unit), 0, 5)
       else
        some (({ Cmds := s160 } : api.Unit), IntKind.wrap .i64 (s116 + 9), 0)
      else
       some (({ Cmds := ([] : List (List (List UInt8))) } : api.Unit), 0, 14)
  else
   some (({ Cmds := ([] : List (List (List UInt8))) } : api.Unit), 0, 5)

structure mewsref15.All.S0 where
 out : List api.Unit
 at_ : Int

def mewsref15.All.body0 (s_ : List UInt8) (s43 : mewsref15.All.S0) : Option (mewsref15.All.S0 ⊕ ((List api.Unit) × Int)) :=
 need (InR s43.at_ (s_.length : Int) s_.length) <|
 (mewsref15.Take (sub s_ s43.at_ (s_.length : Int))).bind fun r49 =>
 if r49.2.2 = 0 then
  need ((s43.out.length + [r49.1].length) * 24 ≤ 140737488355328) <|
  some (.inl ⟨s43.out ++ [r49.1], IntKind.wrap .i64 (s43.at_ + r49.2.1)⟩)
 else
  some (.inr (s43.out, s43.at_))

def mewsref15.All.loop0 (s_ : List UInt8) (s43 : mewsref15.All.S0) : Option ((List api.Unit) × Int) := whileO (mewsref15.All.body0 s_) s43

def mewsref15.All (s_ : List UInt8) : Option ((List api.Unit) × Int) :=
 mewsref15.All.loop0 s_ ⟨([] : List api.Unit), 0⟩

structure mewsref16.with_.S0 where
 met : Bool
 i : Int
 c : List api.File

def mewsref16.with_.body0 (r157 : List api.File) (f : api.File) (s270 : mewsref16.with_.S0) : Option (mewsref16.with_.S0 ⊕ (Bool × (List api.File))) :=
 if s270.i < (r157.length : Int) then
  (
   need (InB s270.i r157.length) <|
   if (ix r157 s270.i).Name = f.Name then
    need ((s270.c.length + [f].length) * 40 ≤ 140737488355328) <|
    some (true, s270.c ++ [f])
   else
    need (InB s270.i r157.length) <|
    need ((s270.c.length + [(ix r157 s270.i)].length) * 40 ≤ 140737488355328) <|
    some (s270.met, s270.c ++ [(ix r157 s270.i)])).bind fun s282 =>
  some (.inl ⟨s282.1, IntKind.wrap .i64 (s270.i + 1), s282.2⟩)
 else
  some (.inr (s270.met, s270.c))

def mewsref16.with_.loop0 (r157 : List api.File) (f : api.File) (s270 : mewsref16.with_.S0) : Option (Bool × (List api.File)) := whileO (mewsref16.with_.body0 r157 f) s270

def mewsref16.with_ (d : api.Disk) (f : api.File) : Option api.Disk :=
 (mewsref16.Files d).bind fun r157 =>
 (mewsref16.with_.loop0 r157 f ⟨false, 0, ([] : List api.File)⟩).bind fun s225 =>
 (
  if (!s225.1) = true then
   need ((s225.2.length + [f].length) * 40 ≤ 140737488355328) <|
   some (s225.2 ++ [f])
  else
   some s225.2).bind fun s298 =>
 some { d with Files := s298 }

def mewsref16.Cut (d : api.Disk) (name : List UInt8) (n_ : Int) : Option (api.Disk × Int) :=
 (mewsref16.Find d name).bind fun r13 =>
 if (!r13.2) = true then
  some (d, 8)
 else
  (mewsref16.between n_ (r13.1.Data.length : Int)).bind fun r15 =>
  need (InR 0 r15 r13.1.Data.length) <|
  (mewsref16.between r13.1.Synced ((sub r13.1.Data 0 r15).length : Int)).bind fun r17 =>
  (mewsref16.with_ d ({ Name := r13.1.Name, Data := sub r13.1.Data 0 r15, Synced := r17 } : api.File)).bind fun r18 =>
  some (r18, 0)

structure mewsref16.Meets.S0 where
 is : Bool
 i : Int
 c : List api.Fault
 c2 : List UInt8
 c3 : Int
 c4 : Int

def mewsref16.Meets.body0 (d : api.Disk) (name : List UInt8) (kind : Int) (s360 : mewsref16.Meets.S0) : Option (mewsref16.Meets.S0 ⊕ (Bool × (List api.Fault) × (List UInt8) × Int × Int)) :=
 if s360.i < (d.Faults.length : Int) then
  (
   need (InB s360.i d.Faults.length) <|
   letO (
    if (!s360.is) = true then
     if (ix d.Faults s360.i).Name = name then
      decide ((ix d.Faults s360.i).Kind = kind)
     else
      false
    else
     false) fun s385 =>
   if s385 = true then
    some (true, s360.c, (ix d.Faults s360.i).Name, (ix d.Faults s360.i).Kind, (ix d.Faults s360.i).Short)
   else
    need ((s360.c.length + [(ix d.Faults s360.i)].length) * 32 ≤ 140737488355328) <|
    some (s360.is, s360.c ++ [(ix d.Faults s360.i)], s360.c2, s360.c3, s360.c4)).bind fun s377 =>
  some (.inl ⟨s377.1, IntKind.wrap .i64 (s360.i + 1), s377.2.1, s377.2.2.1, s377.2.2.2.1, s377.2.2.2.2⟩)
 else
  some (.inr (s360.is, s360.c, s360.c2, s360.c3, s360.c4))

def mewsref16.Meets.loop0 (d : api.Disk) (name : List UInt8) (kind : Int) (s360 : mewsref16.Meets.S0) : Option (Bool × (List api.Fault) × (List UInt8) × Int × Int) := whileO (mewsref16.Meets.body0 d name kind) s360

def mewsref16.Meets (d : api.Disk) (name : List UInt8) (kind : Int) : Option (api.Disk × api.Fault × Bool) :=
 (mewsref16.Meets.loop0 d name kind ⟨false, 0, ([] : List api.Fault), ([] : List UInt8), 0, 0⟩).bind fun s297 =>
 some ({ d with Faults := s297.2.1 }, ({ Name := s297.2.2.1, Kind := s297.2.2.2.1, Short := s297.2.2.2.2 } : api.Fault), s297.1)

def mewsref16.Sync (d : api.Disk) (name : List UInt8) : Option (api.Disk × Int) :=
 (mewsref16.Find d name).bind fun r14 =>
 if (!r14.2) = true then
  some (d, 8)
 else
  (mewsref16.Meets d name 2).bind fun r16 =>
  if r16.2.2 = true then
   some (r16.1, 15)
  else
   (mewsref16.with_ r16.1 { r14.1 with Synced := (r14.1.Data.length : Int) }).bind fun r19 =>
   some (r19, 0)

def mewsref18.Load (d : api.Disk) (name : List UInt8) : Option (api.Disk × (List api.Unit) × Int) :=
 need (name.length + [46, 110, 101, 119].length ≤ 9223372036854775807) <|
 (mewsref16.Remove d (name ++ [46, 110, 101, 119])).bind fun r18 =>
 (mewsref16.Find r18 name).bind fun r20 =>
 if (!r20.2) = true then
  some (r18, ([] : List api.Unit), 0)
 else
  (mewsref15.All r20.1.Data).bind fun r23 =>
  (mewsref16.Cut r18 name r23.2).bind fun r25 =>
  if r23.2 ≤ r20.1.Synced then
   some (r25.1, r23.1, 0)
  else
   (mewsref16.Sync r25.1 name).bind fun r26 =>
   if r26.2 = 0 then
    some (r26.1, r23.1, 0)
   else
    some (r26.1, ([] : List api.Unit), r26.2)

structure mewsref16.Same.S0 where
 i : Int

def mewsref16.Same.body0 (r143 : List api.File) (b : api.Disk) (s223 : mewsref16.Same.S0) : Option (mewsref16.Same.S0 ⊕ (Unit ⊕ Bool)) :=
 if s223.i < (r143.length : Int) then
  need (InB s223.i r143.length) <|
  (mewsref16.Find b (ix r143 s223.i).Name).bind fun r228 =>
  (
   if (!r228.2) = true then
    some true
   else
    need (InB s223.i r143.length) <|
    some (!decide (r228.1 = (ix r143 s223.i)))).bind fun s232 =>
  if s232 = true then
   some (.inr (.inr false))
  else
   some (.inl ⟨IntKind.wrap .i64 (s223.i + 1)⟩)
 else
  some (.inr (.inl ()))

def mewsref16.Same.loop0 (r143 : List api.File) (b : api.Disk) (s223 : mewsref16.Same.S0) : Option (Unit ⊕ Bool) := whileO (mewsref16.Same.body0 r143 b) s223

structure mewsref16.Same.S2 where
 i : Int

def mewsref16.Same.body2 (a : api.Disk) (b : api.Disk) (s270 : mewsref16.Same.S2) : Option (mewsref16.Same.S2 ⊕ (Unit ⊕ Bool)) :=
 if s270.i < (a.Faults.length : Int) then
  need (InB s270.i a.Faults.length) <|
  need (InB s270.i b.Faults.length) <|
  if (ix a.Faults s270.i) = (ix b.Faults s270.i) then
   some (.inl ⟨IntKind.wrap .i64 (s270.i + 1)⟩)
  else
   some (.inr (.inr false))
 else
  some (.inr (.inl ()))

def mewsref16.Same.loop2 (a : api.Disk) (b : api.Disk) (s270 : mewsref16.Same.S2) : Option (Unit ⊕ Bool) := whileO (mewsref16.Same.body2 a b) s270

def mewsref16.Same (a : api.Disk) (b : api.Disk) : Option Bool :=
 (mewsref16.Files a).bind fun r143 =>
 (mewsref16.Files b).bind fun r145 =>
 letO (
  if (r143.length : Int) = (r145.length : Int) then
   (!decide ((a.Faults.length : Int) = (b.Faults.length : Int)))
  else
   true) fun s148 =>
 if s148 = true then
  some false
 else
  (mewsref16.Same.loop0 r143 b ⟨0⟩).bind fun s279 => onSum s279 (fun s194 =>
   (mewsref16.Same.loop2 a b ⟨0⟩).bind fun s278 => onSum s278 (fun s257 =>
    some true) fun s278x => some s278x) fun s279x => some s279x

structure mewsref15.Weight.S0 where
 n : Int
 i : Int

structure mewsref15.Weight.S2 where
 n : Int
 k : Int

def mewsref15.Weight.body2 (s920 : mewsref15.Weight.S0) (u_ : api.Unit) (s990 : mewsref15.Weight.S2) : Option (mewsref15.Weight.S2 ⊕ Int) :=
 (
  need (InB s920.i u_.Cmds.length) <|
  if s990.k < ((ix u_.Cmds s920.i).length : Int) then
   some (decide (s990.n < 100000))
  else
   some false).bind fun s996 =>
 if s996 = true then
  need (InB s920.i u_.Cmds.length) <|
  need (InB s990.k (ix u_.Cmds s920.i).length) <|
  some (.inl ⟨IntKind.wrap .i64 (s990.n + (IntKind.wrap .i64 (1 + ((ix (ix u_.Cmds s920.i) s990.k).length : Int)))), IntKind.wrap .i64 (s990.k + 1)⟩)
 else
  some (.inr s990.n)

def mewsref15.Weight.loop2 (s920 : mewsref15.Weight.S0) (u_ : api.Unit) (s990 : mewsref15.Weight.S2) : Option Int := whileO (mewsref15.Weight.body2 s920 u_) s990

def mewsref15.Weight.body0 (u_ : api.Unit) (s920 : mewsref15.Weight.S0) : Option (mewsref15.Weight.S0 ⊕ Int) :=
 letO (
  if s920.i < (u_.Cmds.length : Int) then
   decide (s920.n < 100000)
  else
   false) fun s925 =>
 if s925 = true then
  (mewsref15.Weight.loop2 s920 u_ ⟨IntKind.wrap .i64 (s920.n + 1), 0⟩).bind fun s965 =>
  some (.inl ⟨s965, IntKind.wrap .i64 (s920.i + 1)⟩)
 else
  some (.inr s920.n)

def mewsref15.Weight.loop0 (u_ : api.Unit) (s920 : mewsref15.Weight.S0) : Option Int := whileO (mewsref15.Weight.body0 u_) s920

def mewsref15.Weight (u_ : api.Unit) : Option Int :=
 (mewsref15.Weight.loop0 u_ ⟨0, 0⟩).bind fun s753 =>
 some s753

structure mewslaw15.Far.S0 where
 n : Int
 t8 : Int

def mewslaw15.Far.body0 (l : List api.Unit) (s83 : mewslaw15.Far.S0) : Option (mewslaw15.Far.S0 ⊕ (Unit ⊕ Bool)) :=
 if s83.t8 < (l.length : Int) then
  need (InB s83.t8 l.length) <|
  (mewsref15.Weight (ix l s83.t8)).bind fun r89 =>
  if 4000 < (IntKind.wrap .i64 (s83.n + r89)) then
   some (.inr (.inr true))
  else
   some (.inl ⟨IntKind.wrap .i64 (s83.n + r89), IntKind.wrap .i64 (s83.t8 + 1)⟩)
 else
  some (.inr (.inl ()))

def mewslaw15.Far.loop0 (l : List api.Unit) (s83 : mewslaw15.Far.S0) : Option (Unit ⊕ Bool) := whileO (mewslaw15.Far.body0 l) s83

def mewslaw15.Far (l : List api.Unit) : Option Bool :=
 (mewslaw15.Far.loop0 l ⟨0, 0⟩).bind fun s92 => onSum s92 (fun s68 =>
  some (decide (100 < (l.length : Int)))) fun s92x => some s92x

def restore.bytes_1 (u_ : api.Unit) (text : List UInt8) : Option (Int × (List UInt8)) :=
 (unit.Put u_).bind fun r5 =>
 need (text.length + r5.1.length ≤ 140737488355328) <|
 some (r5.2, text ++ r5.1)

structure restore.bytes.S0 where
 t12 : Int
 b : List UInt8

def restore.bytes.body0 (l : List api.Unit) (s85 : restore.bytes.S0) : Option (restore.bytes.S0 ⊕ ((List UInt8) ⊕ ((List UInt8) × Int))) :=
 if s85.t12 < (l.length : Int) then
  need (InB s85.t12 l.length) <|
  (restore.bytes_1 (ix l s85.t12) s85.b).bind fun r91 =>
  if r91.1 = 0 then
   some (.inl ⟨IntKind.wrap .i64 (s85.t12 + 1), r91.2⟩)
  else
   some (.inr (.inr (([] : List UInt8), r91.1)))
 else
  some (.inr (.inl s85.b))

def restore.bytes.loop0 (l : List api.Unit) (s85 : restore.bytes.S0) : Option ((List UInt8) ⊕ ((List UInt8) × Int)) := whileO (restore.bytes.body0 l) s85

def restore.bytes (l : List api.Unit) : Option ((List UInt8) × Int) :=
 (restore.bytes.loop0 l ⟨0, ([] : List UInt8)⟩).bind fun s94 => onSum s94 (fun s70 =>
  some (s70, 0)) fun s94x => some s94x

def disk.Write (d : api.Disk) (name : List UInt8) (s_ : List UInt8) : Option (api.Disk × Int × Int) :=
 (disk.own d).bind fun r40 =>
 (
  (disk.meets_v name 1 r40).bind fun r52 =>
  if r52.2.1 = true then
   need (InR 0 (if (s_.length : Int) < (if r52.1.Short < 0 then 0 else r52.1.Short) then (s_.length : Int) else (if r52.1.Short < 0 then 0 else r52.1.Short)) s_.length) <|
   some (sub s_ 0 (if (s_.length : Int) < (if r52.1.Short < 0 then 0 else r52.1.Short) then (s_.length : Int) else (if r52.1.Short < 0 then 0 else r52.1.Short)), 15, r52.2.2.Faults)
  else
   some (s_, 0, r52.2.2.Faults)).bind fun s48 =>
 (disk.find_v { r40 with Faults := s48.2.2 } name).bind fun r57 =>
 (
  if r57 < 0 then
   need ((r40.Files.length + [({ Name := name, Data := ([] : List UInt8), Synced := 0 } : api.File)].length) * 40 ≤ 140737488355328) <|
   some ((r40.Files.length : Int), r40.Files ++ [({ Name := name, Data := ([] : List UInt8), Synced := 0 } : api.File)])
  else
   some (r57, r40.Files)).bind fun s61 =>
 need (InB s61.1 s61.2.length) <|
 need (InB s61.1 s61.2.length) <|
 (disk.safe (ix s61.2 s61.1)).bind fun r70 =>
 need (InB s61.1 s61.2.length) <|
 need (InB s61.1 (upd s61.2 s61.1 { (ix s61.2 s61.1) with Synced := r70 }).length) <|
 need ((ix (upd s61.2 s61.1 { (ix s61.2 s61.1) with Synced := r70 }) s61.1).Data.length + s48.1.length ≤ 9223372036854775807) <|
 need (InB s61.1 (upd s61.2 s61.1 { (ix s61.2 s61.1) with Synced := r70 }).length) <|
 some (({ Files := upd (upd s61.2 s61.1 { (ix s61.2 s61.1) with Synced := r70 }) s61.1 ({ Name := (ix (upd s61.2 s61.1 { (ix s61.2 s61.1) with Synced := r70 }) s61.1).Name, Data := (ix (upd s61.2 s61.1 { (ix s61.2 s61.1) with Synced := r70 }) s61.1).Data ++ s48.1, Synced := (ix (upd s61.2 s61.1 { (ix s61.2 s61.1) with Synced := r70 }) s61.1).Synced } : api.File), Faults := s48.2.2 } : api.Disk), (s48.1.length : Int), s48.2.1)

def restore.Lay (d : api.Disk) (name : List UInt8) (l : List api.Unit) : Option (api.Disk × Int × Int) :=
 (restore.bytes l).bind fun r9 =>
 if r9.2 = 0 then
  (restore.Other name).bind fun r10 =>
  (disk.Write d r10 r9.1).bind fun r11 =>
  some (r11.1, r11.2.1, r11.2.2)
 else
  some (d, 0, r9.2)

def mewsref16.Write (d : api.Disk) (name : List UInt8) (s_ : List UInt8) : Option (api.Disk × Int × Int) :=
 (mewsref16.Meets d name 1).bind fun r22 =>
 (
  if r22.2.2 = true then
   (mewsref16.between r22.2.1.Short (s_.length : Int)).bind fun r31 =>
   need (InR 0 r31 s_.length) <|
   some (sub s_ 0 r31, 15)
  else
   some (s_, 0)).bind fun s28 =>
 (mewsref16.Find r22.1 name).bind fun r34 =>
 need (r34.1.Data.length + s28.1.length ≤ 9223372036854775807) <|
 (mewsref16.with_ r22.1 ({ Name := name, Data := r34.1.Data ++ s28.1, Synced := r34.1.Synced } : api.File)).bind fun r37 =>
 some (r37, (s28.1.length : Int), s28.2)

def mewsref18.Lay (d : api.Disk) (name : List UInt8) (l : List api.Unit) : Option (api.Disk × Int × Int) :=
 (mewsref18.Bytes l).bind fun r10 =>
 if r10.2 = 0 then
  need (name.length + [46, 110, 101, 119].length ≤ 9223372036854775807) <|
  (mewsref16.Write d (name ++ [46, 110, 101, 119]) r10.1).bind fun r12 =>
  some (r12.1, r12.2.1, r12.2.2)
 else
  some (d, 0, r10.2)

structure disk.Rename.S0 where
 t40 : Int
 v : List api.File

def disk.Rename.body0 (r239 : api.Disk) (r242 : Int) (to : List UInt8) (from_ : List UInt8) (s432 : disk.Rename.S0) : Option (disk.Rename.S0 ⊕ (List api.File)) :=
 if s432.t40 < (r239.Files.length : Int) then
  (
   need (InB s432.t40 r239.Files.length) <|
   need (InB s432.t40 r239.Files.length) <|
   if s432.t40 = r242 then
    need ((s432.v.length + [{ (ix r239.Files r242) with Name := to }].length) * 40 ≤ 140737488355328) <|
    some (s432.v ++ [{ (ix r239.Files r242) with Name := to }])
   else
    letO (
     if (ix r239.Files s432.t40).Name = to then
      false
     else
      (!decide ((ix r239.Files s432.t40).Name = from_))) fun s461 =>
    if s461 = true then
     need ((s432.v.length + [(ix r239.Files s432.t40)].length) * 40 ≤ 140737488355328) <|
     some (s432.v ++ [(ix r239.Files s432.t40)])
    else
     some s432.v).bind fun s451 =>
  some (.inl ⟨IntKind.wrap .i64 (s432.t40 + 1), s451⟩)
 else
  some (.inr s432.v)

def disk.Rename.loop0 (r239 : api.Disk) (r242 : Int) (to : List UInt8) (from_ : List UInt8) (s432 : disk.Rename.S0) : Option (List api.File) := whileO (disk.Rename.body0 r239 r242 to from_) s432

def disk.Rename (d : api.Disk) (from_ : List UInt8) (to : List UInt8) : Option (api.Disk × Int) :=
 (disk.own d).bind fun r239 =>
 (disk.find_v r239 from_).bind fun r242 =>
 if r242 < 0 then
  some (r239, 8)
 else
  (disk.meets_v from_ 3 r239).bind fun r243 =>
  if r243.2.1 = true then
   some ({ r239 with Faults := r243.2.2.Faults }, 15)
  else
   need (InB r242 r239.Files.length) <|
   need (InB r242 r239.Files.length) <|
   (disk.Rename.loop0 r239 r242 to from_ ⟨0, ([] : List api.File)⟩).bind fun s358 =>
   some ({ r243.2.2 with Files := s358 }, 0)

def restore.Swap (d : api.Disk) (name : List UInt8) : Option (api.Disk × Int) :=
 (restore.Other name).bind fun r10 =>
 (disk.Sync d r10).bind fun r11 =>
 if r11.2 = 0 then
  (restore.Other name).bind fun r12 =>
  (disk.Rename r11.1 r12 name).bind fun r13 =>
  some (r13.1, r13.2)
 else
  some (r11.1, r11.2)

structure mewsref16.Rename.S0 where
 i : Int
 c : List UInt8
 c2 : List api.File

def mewsref16.Rename.body0 (r174 : List api.File) (from_ : List UInt8) (r160 : api.File × Bool) (to : List UInt8) (s288 : mewsref16.Rename.S0) : Option (mewsref16.Rename.S0 ⊕ (List api.File)) :=
 if s288.i < (r174.length : Int) then
  (
   need (InB s288.i r174.length) <|
   if (ix r174 s288.i).Name = from_ then
    need ((s288.c2.length + [{ r160.1 with Name := to }].length) * 40 ≤ 140737488355328) <|
    some (to, s288.c2 ++ [{ r160.1 with Name := to }])
   else
    need (InB s288.i r174.length) <|
    need ((s288.c2.length + [(ix r174 s288.i)].length) * 40 ≤ 140737488355328) <|
    some (s288.c, s288.c2 ++ [(ix r174 s288.i)])).bind fun s300 =>
  some (.inl ⟨IntKind.wrap .i64 (s288.i + 1), s300.1, s300.2⟩)
 else
  some (.inr s288.c2)

def mewsref16.Rename.loop0 (r174 : List api.File) (from_ : List UInt8) (r160 : api.File × Bool) (to : List UInt8) (s288 : mewsref16.Rename.S0) : Option (List api.File) := whileO (mewsref16.Rename.body0 r174 from_ r160 to) s288

def mewsref16.Rename (d : api.Disk) (from_ : List UInt8) (to : List UInt8) : Option (api.Disk × Int) :=
 (mewsref16.Find d from_).bind fun r160 =>
 if (!r160.2) = true then
  some (d, 8)
 else
  (mewsref16.Meets d from_ 3).bind fun r162 =>
  if r162.2.2 = true then
   some (r162.1, 15)
  else
   (
    if from_ = to then
     some (r162.1.Files, r162.1.Faults)
    else
     (mewsref16.Remove r162.1 to).bind fun r171 =>
     some (r171.Files, r171.Faults)).bind fun s168 =>
   (mewsref16.Files ({ Files := s168.1, Faults := s168.2 } : api.Disk)).bind fun r174 =>
   (mewsref16.Rename.loop0 r174 from_ r160 to ⟨0, r160.1.Name, ([] : List api.File)⟩).bind fun s243 =>
   some (({ Files := s243, Faults := s168.2 } : api.Disk), 0)

def mewsref18.Swap (d : api.Disk) (name : List UInt8) : Option (api.Disk × Int) :=
 need (name.length + [46, 110, 101, 119].length ≤ 9223372036854775807) <|
 (mewsref16.Sync d (name ++ [46, 110, 101, 119])).bind fun r11 =>
 if r11.2 = 0 then
  need (name.length + [46, 110, 101, 119].length ≤ 9223372036854775807) <|
  (mewsref16.Rename r11.1 (name ++ [46, 110, 101, 119]) name).bind fun r13 =>
  some (r13.1, r13.2)
 else
  some (r11.1, r11.2)

def aof.Open (name : List UInt8) (policy : Int) (quota : Int) (size : Int) (now : Int) : Option api.Log :=
 some ({ Name := name, Policy := policy, Quota := quota, Size := if size < 0 then 0 else size, Pending := ([] : List UInt8), Logged := 0, Durable := 0, Ends := ([] : List Int), Last := now } : api.Log)

def restore.Anew (d : api.Disk) (g : api.Log) (l : List api.Unit) (now : Int) : Option (api.Disk × api.Log × Int) :=
 (restore.bytes l).bind fun r28 =>
 if r28.2 = 0 then
  if g.Quota < (r28.1.length : Int) then
   some (d, g, 11)
  else
   (restore.Other g.Name).bind fun r29 =>
   (disk.Remove d r29).bind fun r30 =>
   (restore.Other g.Name).bind fun r31 =>
   (disk.Write r30 r31 r28.1).bind fun r32 =>
   (
    if r32.2.2 = 0 then
     (restore.Swap r32.1 g.Name).bind fun r38 =>
     some (r38.2, r38.1.Files, r38.1.Faults)
    else
     some (r32.2.2, r32.1.Files, r32.1.Faults)).bind fun s35 =>
   if s35.1 = 0 then
    (aof.Open g.Name g.Policy g.Quota (r28.1.length : Int) now).bind fun r42 =>
    some (({ Files := s35.2.1, Faults := s35.2.2 } : api.Disk), { r42 with Logged := g.Logged, Durable := g.Logged }, 0)
   else
    (restore.Other g.Name).bind fun r40 =>
    (disk.Remove ({ Files := s35.2.1, Faults := s35.2.2 } : api.Disk) r40).bind fun r41 =>
    some (r41, g, s35.1)
 else
  some (d, g, r28.2)

def mewsref18.Anew (d : api.Disk) (name : List UInt8) (quota : Int) (l : List api.Unit) : Option (api.Disk × Int × Int) :=
 (mewsref18.Bytes l).bind fun r25 =>
 if r25.2 = 0 then
  if quota < (r25.1.length : Int) then
   some (d, 0, 11)
  else
   need (name.length + [46, 110, 101, 119].length ≤ 9223372036854775807) <|
   (mewsref16.Remove d (name ++ [46, 110, 101, 119])).bind fun r27 =>
   need (name.length + [46, 110, 101, 119].length ≤ 9223372036854775807) <|
   (mewsref16.Write r27 (name ++ [46, 110, 101, 119]) r25.1).bind fun r30 =>
   (
    if r30.2.2 = 0 then
     (mewsref18.Swap r30.1 name).bind fun r37 =>
     some (r37.2, r37.1.Files, r37.1.Faults)
    else
     some (r30.2.2, r30.1.Files, r30.1.Faults)).bind fun s34 =>
   if s34.1 = 0 then
    some (({ Files := s34.2.1, Faults := s34.2.2 } : api.Disk), (r25.1.length : Int), 0)
   else
    need (name.length + [46, 110, 101, 119].length ≤ 9223372036854775807) <|
    (mewsref16.Remove ({ Files := s34.2.1, Faults := s34.2.2 } : api.Disk) (name ++ [46, 110, 101, 119])).bind fun r40 =>
    some (r40, 0, s34.1)
 else
  some (d, 0, r25.2)

structure mewsref17.Same.S0 where
 i : Int

def mewsref17.Same.body0 (a : api.Log) (b : api.Log) (s94 : mewsref17.Same.S0) : Option (mewsref17.Same.S0 ⊕ (Unit ⊕ Bool)) :=
 if s94.i < (a.Ends.length : Int) then
  need (InB s94.i a.Ends.length) <|
  need (InB s94.i b.Ends.length) <|
  if (ix a.Ends s94.i) = (ix b.Ends s94.i) then
   some (.inl ⟨IntKind.wrap .i64 (s94.i + 1)⟩)
  else
   some (.inr (.inr false))
 else
  some (.inr (.inl ()))

def mewsref17.Same.loop0 (a : api.Log) (b : api.Log) (s94 : mewsref17.Same.S0) : Option (Unit ⊕ Bool) := whileO (mewsref17.Same.body0 a b) s94

def mewsref17.Same (a : api.Log) (b : api.Log) : Option Bool :=
 if (a.Ends.length : Int) = (b.Ends.length : Int) then
  (mewsref17.Same.loop0 a b ⟨0⟩).bind fun s119 => onSum s119 (fun s81 =>
   letO (
    if a.Name = b.Name then
     if a.Policy = b.Policy then
      if a.Quota = b.Quota then
       if a.Size = b.Size then
        if a.Pending = b.Pending then
         if a.Logged = b.Logged then
          if a.Durable = b.Durable then
           decide (a.Last = b.Last)
          else
           false
         else
          false
        else
         false
       else
        false
      else
       false
     else
      false
    else
     false) fun s109 =>
   some s109) fun s119x => some s119x
 else
  some false

def mewslaw18.RestoreLays (d : api.Disk) (g : api.Log) (l : List api.Unit) : Option Bool :=
 (
  (mewslaw16.Far d ([] : List mewslaw16.Op)).bind fun r75 =>
  if r75 = true then
   some true
  else
   (mewslaw15.Far l).bind fun r77 =>
   if r77 = true then
    some true
   else
    some (decide (300 < (IntKind.wrap .i64 ((g.Name.length : Int) + (g.Pending.length : Int)))))).bind fun s72 =>
 if s72 = true then
  (mewslaw18.alive).bind fun r79 =>
  some r79
 else
  (restore.Lay d g.Name l).bind fun r80 =>
  (mewsref18.Lay d g.Name l).bind fun r82 =>
  (restore.Swap r80.1 g.Name).bind fun r84 =>
  (mewsref18.Swap r82.1 g.Name).bind fun r86 =>
  (
   (mewsref16.Same r80.1 r82.1).bind fun r97 =>
   if (!r97) = true then
    some true
   else
    if r80.2.1 = r82.2.1 then
     if r80.2.2 = r82.2.2 then
      (mewsref16.Same r84.1 r86.1).bind fun r101 =>
      if (!r101) = true then
       some true
      else
       some (!decide (r84.2 = r86.2))
     else
      some true
    else
     some true).bind fun s94 =>
  if s94 = true then
   some false
  else
   (restore.Anew d g l 7).bind fun r103 =>
   (mewsref18.Anew d g.Name g.Quota l).bind fun r106 =>
   letO (
    if r106.2.2 = 0 then
     (r106.2.1, ([] : List UInt8), g.Logged, ([] : List Int), 7)
    else
     (g.Size, g.Pending, g.Durable, g.Ends, g.Last)) fun s110 =>
   (
    (mewsref16.Same r103.1 r106.1).bind fun r123 =>
    if r123 = true then
     (mewsref17.Same r103.2.1 ({ Name := g.Name, Policy := g.Policy, Quota := g.Quota, Size := s110.1, Pending := s110.2.1, Logged := g.Logged, Durable := s110.2.2.1, Ends := s110.2.2.2.1, Last := s110.2.2.2.2 } : api.Log)).bind fun r125 =>
     if r125 = true then
      if r103.2.2 = r106.2.2 then
       (mewslaw18.alive).bind fun r128 =>
       some r128
      else
       some false
     else
      some false
    else
     some false).bind fun s120 =>
   some s120

end Go.Pu
