/- Printed by lift.py: the same functions, with rounds that are counted. -/
import Derived.Test.YtlidepjlhmaldaaDPP
set_option maxRecDepth 100000
set_option maxHeartbeats 0
namespace Go.Pu
open Go.Lift

def slices.Clone_api_File.c (k : Nat) (s : List api.File) : Option (List api.File) :=
 need ((([] : List api.File).length + s.length) * 40 ≤ 140737488355328) <|
 some s

theorem slices.Clone_api_File.c_le (k : Nat) (s : List api.File) : OLe (slices.Clone_api_File.c k s) (slices.Clone_api_File s) := by
 unfold slices.Clone_api_File.c slices.Clone_api_File
 repeat' with_reducible first | exact OLe.refl _ | apply OLe.bind | apply OLe.need | apply OLe.letO | apply OLe.onSum | apply OLe.ite | intro _

def slices.Clone_api_Fault.c (k : Nat) (s : List api.Fault) : Option (List api.Fault) :=
 need ((([] : List api.Fault).length + s.length) * 32 ≤ 140737488355328) <|
 some s

theorem slices.Clone_api_Fault.c_le (k : Nat) (s : List api.Fault) : OLe (slices.Clone_api_Fault.c k s) (slices.Clone_api_Fault s) := by
 unfold slices.Clone_api_Fault.c slices.Clone_api_Fault
 repeat' with_reducible first | exact OLe.refl _ | apply OLe.bind | apply OLe.need | apply OLe.letO | apply OLe.onSum | apply OLe.ite | intro _

def disk.own.c (k : Nat) (d : api.Disk) : Option api.Disk :=
 (slices.Clone_api_File.c k d.Files).bind fun r9 =>
 (slices.Clone_api_Fault.c k d.Faults).bind fun r11 =>
 some ({ Files := r9, Faults := r11 } : api.Disk)

theorem disk.own.c_le (k : Nat) (d : api.Disk) : OLe (disk.own.c k d) (disk.own d) := by
 unfold disk.own.c disk.own
 repeat' with_reducible first | exact OLe.refl _ | apply slices.Clone_api_File.c_le | apply slices.Clone_api_Fault.c_le | apply OLe.bind | apply OLe.need | apply OLe.letO | apply OLe.onSum | apply OLe.ite | intro _

def disk.meets_1.c (k : Nat) (f : api.Fault) (a1_ : List UInt8) (a2_ : Int) : Option Bool :=
 letO (
  if f.Name = a1_ then
   decide (f.Kind = a2_)
  else
   false) fun s9 =>
 some s9

theorem disk.meets_1.c_le (k : Nat) (f : api.Fault) (a1_ : List UInt8) (a2_ : Int) : OLe (disk.meets_1.c k f a1_ a2_) (disk.meets_1 f a1_ a2_) := by
 unfold disk.meets_1.c disk.meets_1
 repeat' with_reducible first | exact OLe.refl _ | apply OLe.bind | apply OLe.need | apply OLe.letO | apply OLe.onSum | apply OLe.ite | intro _

def slices.IndexFunc_api_Fault_v_disk_meets_1.body0.c (k : Nat) (s_ : List api.Fault) (b1_ : List UInt8) (b2_ : Int) (s83 : slices.IndexFunc_api_Fault_v_disk_meets_1.S0) : Option (slices.IndexFunc_api_Fault_v_disk_meets_1.S0 ⊕ (Unit ⊕ Int)) :=
 if s83.t8 < (s_.length : Int) then
  need (InB s83.t8 s_.length) <|
  need (InB s83.t8 s_.length) <|
  (disk.meets_1.c k (ix s_ s83.t8) b1_ b2_).bind fun r89 =>
  if r89 = true then
   some (.inr (.inr s83.t8))
  else
   some (.inl ⟨IntKind.wrap .i64 (s83.t8 + 1)⟩)
 else
  some (.inr (.inl ()))

theorem slices.IndexFunc_api_Fault_v_disk_meets_1.body0.c_le (k : Nat) (s_ : List api.Fault) (b1_ : List UInt8) (b2_ : Int) (s83 : slices.IndexFunc_api_Fault_v_disk_meets_1.S0) : OLe (slices.IndexFunc_api_Fault_v_disk_meets_1.body0.c k s_ b1_ b2_ s83) (slices.IndexFunc_api_Fault_v_disk_meets_1.body0 s_ b1_ b2_ s83) := by
 unfold slices.IndexFunc_api_Fault_v_disk_meets_1.body0.c slices.IndexFunc_api_Fault_v_disk_meets_1.body0
 repeat' with_reducible first | exact OLe.refl _ | apply disk.meets_1.c_le | apply OLe.bind | apply OLe.need | apply OLe.letO | apply OLe.onSum | apply OLe.ite | intro _

def slices.IndexFunc_api_Fault_v_disk_meets_1.loop0.c (k : Nat) (s_ : List api.Fault) (b1_ : List UInt8) (b2_ : Int) (s83 : slices.IndexFunc_api_Fault_v_disk_meets_1.S0) : Option (Unit ⊕ Int) := iterO (slices.IndexFunc_api_Fault_v_disk_meets_1.body0.c k s_ b1_ b2_) k s83

theorem slices.IndexFunc_api_Fault_v_disk_meets_1.loop0.c_le (k : Nat) (s_ : List api.Fault) (b1_ : List UInt8) (b2_ : Int) (s83 : slices.IndexFunc_api_Fault_v_disk_meets_1.S0) : OLe (slices.IndexFunc_api_Fault_v_disk_meets_1.loop0.c k s_ b1_ b2_ s83) (slices.IndexFunc_api_Fault_v_disk_meets_1.loop0 s_ b1_ b2_ s83) := by
 unfold slices.IndexFunc_api_Fault_v_disk_meets_1.loop0.c slices.IndexFunc_api_Fault_v_disk_meets_1.loop0
 exact OLe.iter (fun s => slices.IndexFunc_api_Fault_v_disk_meets_1.body0.c_le k s_ b1_ b2_ s) k _

def slices.IndexFunc_api_Fault_v_disk_meets_1.c (k : Nat) (s_ : List api.Fault) (b1_ : List UInt8) (b2_ : Int) : Option Int :=
 (slices.IndexFunc_api_Fault_v_disk_meets_1.loop0.c k s_ b1_ b2_ ⟨0⟩).bind fun s92 => onSum s92 (fun s68 =>
  some (-1)) fun s92x => some s92x

theorem slices.IndexFunc_api_Fault_v_disk_meets_1.c_le (k : Nat) (s_ : List api.Fault) (b1_ : List UInt8) (b2_ : Int) : OLe (slices.IndexFunc_api_Fault_v_disk_meets_1.c k s_ b1_ b2_) (slices.IndexFunc_api_Fault_v_disk_meets_1 s_ b1_ b2_) := by
 unfold slices.IndexFunc_api_Fault_v_disk_meets_1.c slices.IndexFunc_api_Fault_v_disk_meets_1
 repeat' with_reducible first | exact OLe.refl _ | apply slices.IndexFunc_api_Fault_v_disk_meets_1.loop0.c_le | apply OLe.bind | apply OLe.need | apply OLe.letO | apply OLe.onSum | apply OLe.ite | intro _

def slices.Delete_api_Fault_v.c (k : Nat) (s_ : List api.Fault) (i : Int) (j : Int) : Option (List api.Fault) :=
 need (0 ≤ i ∧ i ≤ j ∧ j ≤ (s_.length : Int) ∧ (s_.length : Int) ≤ (s_.length : Int)) <|
 if i = j then
  some s_
 else
  need (InR 0 i s_.length) <|
  need (InR j (s_.length : Int) s_.length) <|
  need (0 ≤ i ∧ i ≤ j ∧ j ≤ (s_.length : Int) ∧ (s_.length : Int) = (s_.length : Int)) <|
  need ((0 : Int) ≤ 0 ∧ 0 ≤ (i + ((s_.length : Int) - j))) <|
  need (InP 0 (i + ((s_.length : Int) - j)) (mvL s_ (Int.toNat i) (Int.toNat j)).length) <|
  need (0 ≤ ((i + ((s_.length : Int) - j)) - 0) ∧ ((i + ((s_.length : Int) - j)) - 0) ≤ (s_.length : Int) ∧ 0 + (s_.length : Int) ≤ ((mvL s_ (Int.toNat i) (Int.toNat j)).length : Int)) <|
  need (InP (0 + ((i + ((s_.length : Int) - j)) - 0)) (0 + (s_.length : Int)) (mvL s_ (Int.toNat i) (Int.toNat j)).length) <|
  need (0 ≤ (i + ((s_.length : Int) - j)) ∧ (i + ((s_.length : Int) - j)) ≤ ((clrL (mvL s_ (Int.toNat i) (Int.toNat j)) (Int.toNat (0 + ((i + ((s_.length : Int) - j)) - 0))) (Int.toNat (0 + (s_.length : Int))) (({ Name := ([] : List UInt8), Kind := 0, Short := 0 } : api.Fault) : api.Fault)).length : Int)) <|
  some (List.take (Int.toNat (i + ((s_.length : Int) - j))) (clrL (mvL s_ (Int.toNat i) (Int.toNat j)) (Int.toNat (0 + ((i + ((s_.length : Int) - j)) - 0))) (Int.toNat (0 + (s_.length : Int))) (({ Name := ([] : List UInt8), Kind := 0, Short := 0 } : api.Fault) : api.Fault)))

theorem slices.Delete_api_Fault_v.c_le (k : Nat) (s_ : List api.Fault) (i : Int) (j : Int) : OLe (slices.Delete_api_Fault_v.c k s_ i j) (slices.Delete_api_Fault_v s_ i j) := by
 unfold slices.Delete_api_Fault_v.c slices.Delete_api_Fault_v
 repeat' with_reducible first | exact OLe.refl _ | apply OLe.bind | apply OLe.need | apply OLe.letO | apply OLe.onSum | apply OLe.ite | intro _

def disk.meets_v.c (k : Nat) (name : List UInt8) (kind : Int) (d : api.Disk) : Option (api.Fault × Bool × api.Disk) :=
 (slices.IndexFunc_api_Fault_v_disk_meets_1.c k d.Faults name kind).bind fun r14 =>
 if r14 < 0 then
  some (({ Name := ([] : List UInt8), Kind := 0, Short := 0 } : api.Fault), false, d)
 else
  need (InB r14 d.Faults.length) <|
  need (InB r14 d.Faults.length) <|
  (slices.Delete_api_Fault_v.c k d.Faults r14 (IntKind.wrap .i64 (r14 + 1))).bind fun r18 =>
  some ((ix d.Faults r14), true, { d with Faults := r18 })

theorem disk.meets_v.c_le (k : Nat) (name : List UInt8) (kind : Int) (d : api.Disk) : OLe (disk.meets_v.c k name kind d) (disk.meets_v name kind d) := by
 unfold disk.meets_v.c disk.meets_v
 repeat' with_reducible first | exact OLe.refl _ | apply slices.IndexFunc_api_Fault_v_disk_meets_1.c_le | apply slices.Delete_api_Fault_v.c_le | apply OLe.bind | apply OLe.need | apply OLe.letO | apply OLe.onSum | apply OLe.ite | intro _

def disk.find_1.c (k : Nat) (f : api.File) (a1_ : List UInt8) : Option Bool :=
 some (decide (f.Name = a1_))

theorem disk.find_1.c_le (k : Nat) (f : api.File) (a1_ : List UInt8) : OLe (disk.find_1.c k f a1_) (disk.find_1 f a1_) := by
 unfold disk.find_1.c disk.find_1
 repeat' with_reducible first | exact OLe.refl _ | apply OLe.bind | apply OLe.need | apply OLe.letO | apply OLe.onSum | apply OLe.ite | intro _

def slices.IndexFunc_api_File_v_disk_find_1.body0.c (k : Nat) (s_ : List api.File) (b1_ : List UInt8) (s83 : slices.IndexFunc_api_File_v_disk_find_1.S0) : Option (slices.IndexFunc_api_File_v_disk_find_1.S0 ⊕ (Unit ⊕ Int)) :=
 if s83.t8 < (s_.length : Int) then
  need (InB s83.t8 s_.length) <|
  need (InB s83.t8 s_.length) <|
  (disk.find_1.c k (ix s_ s83.t8) b1_).bind fun r89 =>
  if r89 = true then
   some (.inr (.inr s83.t8))
  else
   some (.inl ⟨IntKind.wrap .i64 (s83.t8 + 1)⟩)
 else
  some (.inr (.inl ()))

theorem slices.IndexFunc_api_File_v_disk_find_1.body0.c_le (k : Nat) (s_ : List api.File) (b1_ : List UInt8) (s83 : slices.IndexFunc_api_File_v_disk_find_1.S0) : OLe (slices.IndexFunc_api_File_v_disk_find_1.body0.c k s_ b1_ s83) (slices.IndexFunc_api_File_v_disk_find_1.body0 s_ b1_ s83) := by
 unfold slices.IndexFunc_api_File_v_disk_find_1.body0.c slices.IndexFunc_api_File_v_disk_find_1.body0
 repeat' with_reducible first | exact OLe.refl _ | apply disk.find_1.c_le | apply OLe.bind | apply OLe.need | apply OLe.letO | apply OLe.onSum | apply OLe.ite | intro _

def slices.IndexFunc_api_File_v_disk_find_1.loop0.c (k : Nat) (s_ : List api.File) (b1_ : List UInt8) (s83 : slices.IndexFunc_api_File_v_disk_find_1.S0) : Option (Unit ⊕ Int) := iterO (slices.IndexFunc_api_File_v_disk_find_1.body0.c k s_ b1_) k s83

theorem slices.IndexFunc_api_File_v_disk_find_1.loop0.c_le (k : Nat) (s_ : List api.File) (b1_ : List UInt8) (s83 : slices.IndexFunc_api_File_v_disk_find_1.S0) : OLe (slices.IndexFunc_api_File_v_disk_find_1.loop0.c k s_ b1_ s83) (slices.IndexFunc_api_File_v_disk_find_1.loop0 s_ b1_ s83) := by
 unfold slices.IndexFunc_api_File_v_disk_find_1.loop0.c slices.IndexFunc_api_File_v_disk_find_1.loop0
 exact OLe.iter (fun s => slices.IndexFunc_api_File_v_disk_find_1.body0.c_le k s_ b1_ s) k _

def slices.IndexFunc_api_File_v_disk_find_1.c (k : Nat) (s_ : List api.File) (b1_ : List UInt8) : Option Int :=
 (slices.IndexFunc_api_File_v_disk_find_1.loop0.c k s_ b1_ ⟨0⟩).bind fun s92 => onSum s92 (fun s68 =>
  some (-1)) fun s92x => some s92x

theorem slices.IndexFunc_api_File_v_disk_find_1.c_le (k : Nat) (s_ : List api.File) (b1_ : List UInt8) : OLe (slices.IndexFunc_api_File_v_disk_find_1.c k s_ b1_) (slices.IndexFunc_api_File_v_disk_find_1 s_ b1_) := by
 unfold slices.IndexFunc_api_File_v_disk_find_1.c slices.IndexFunc_api_File_v_disk_find_1
 repeat' with_reducible first | exact OLe.refl _ | apply slices.IndexFunc_api_File_v_disk_find_1.loop0.c_le | apply OLe.bind | apply OLe.need | apply OLe.letO | apply OLe.onSum | apply OLe.ite | intro _

def disk.find_v.c (k : Nat) (d : api.Disk) (name : List UInt8) : Option Int :=
 (slices.IndexFunc_api_File_v_disk_find_1.c k d.Files name).bind fun r6 =>
 some r6

theorem disk.find_v.c_le (k : Nat) (d : api.Disk) (name : List UInt8) : OLe (disk.find_v.c k d name) (disk.find_v d name) := by
 unfold disk.find_v.c disk.find_v
 repeat' with_reducible first | exact OLe.refl _ | apply slices.IndexFunc_api_File_v_disk_find_1.c_le | apply OLe.bind | apply OLe.need | apply OLe.letO | apply OLe.onSum | apply OLe.ite | intro _

def disk.safe.c (k : Nat) (f : api.File) : Option Int :=
 some (if (f.Data.length : Int) < (if f.Synced < 0 then 0 else f.Synced) then (f.Data.length : Int) else (if f.Synced < 0 then 0 else f.Synced))

theorem disk.safe.c_le (k : Nat) (f : api.File) : OLe (disk.safe.c k f) (disk.safe f) := by
 unfold disk.safe.c disk.safe
 repeat' with_reducible first | exact OLe.refl _ | apply OLe.bind | apply OLe.need | apply OLe.letO | apply OLe.onSum | apply OLe.ite | intro _

def disk.Write.c (k : Nat) (d : api.Disk) (name : List UInt8) (s_ : List UInt8) : Option (api.Disk × Int × Int) :=
 (disk.own.c k d).bind fun r40 =>
 (
  (disk.meets_v.c k name 1 r40).bind fun r52 =>
  if r52.2.1 = true then
   need (InR 0 (if (s_.length : Int) < (if r52.1.Short < 0 then 0 else r52.1.Short) then (s_.length : Int) else (if r52.1.Short < 0 then 0 else r52.1.Short)) s_.length) <|
   some (sub s_ 0 (if (s_.length : Int) < (if r52.1.Short < 0 then 0 else r52.1.Short) then (s_.length : Int) else (if r52.1.Short < 0 then 0 else r52.1.Short)), 15, r52.2.2.Faults)
  else
   some (s_, 0, r52.2.2.Faults)).bind fun s48 =>
 (disk.find_v.c k { r40 with Faults := s48.2.2 } name).bind fun r57 =>
 (
  if r57 < 0 then
   need ((r40.Files.length + [({ Name := name, Data := ([] : List UInt8), Synced := 0 } : api.File)].length) * 40 ≤ 140737488355328) <|
   some ((r40.Files.length : Int), r40.Files ++ [({ Name := name, Data := ([] : List UInt8), Synced := 0 } : api.File)])
  else
   some (r57, r40.Files)).bind fun s61 =>
 need (InB s61.1 s61.2.length) <|
 need (InB s61.1 s61.2.length) <|
 (disk.safe.c k (ix s61.2 s61.1)).bind fun r70 =>
 need (InB s61.1 s61.2.length) <|
 need (InB s61.1 (upd s61.2 s61.1 { (ix s61.2 s61.1) with Synced := r70 }).length) <|
 need ((ix (upd s61.2 s61.1 { (ix s61.2 s61.1) with Synced := r70 }) s61.1).Data.length + s48.1.length ≤ 9223372036854775807) <|
 need (InB s61.1 (upd s61.2 s61.1 { (ix s61.2 s61.1) with Synced := r70 }).length) <|
 some (({ Files := upd (upd s61.2 s61.1 { (ix s61.2 s61.1) with Synced := r70 }) s61.1 ({ Name := (ix (upd s61.2 s61.1 { (ix s61.2 s61.1) with Synced := r70 }) s61.1).Name, Data := (ix (upd s61.2 s61.1 { (ix s61.2 s61.1) with Synced := r70 }) s61.1).Data ++ s48.1, Synced := (ix (upd s61.2 s61.1 { (ix s61.2 s61.1) with Synced := r70 }) s61.1).Synced } : api.File), Faults := s48.2.2 } : api.Disk), (s48.1.length : Int), s48.2.1)

theorem disk.Write.c_le (k : Nat) (d : api.Disk) (name : List UInt8) (s_ : List UInt8) : OLe (disk.Write.c k d name s_) (disk.Write d name s_) := by
 unfold disk.Write.c disk.Write
 repeat' with_reducible first | exact OLe.refl _ | apply disk.own.c_le | apply disk.meets_v.c_le | apply disk.find_v.c_le | apply disk.safe.c_le | apply OLe.bind | apply OLe.need | apply OLe.letO | apply OLe.onSum | apply OLe.ite | intro _

def disk.Sync.c (k : Nat) (d : api.Disk) (name : List UInt8) : Option (api.Disk × Int) :=
 (disk.own.c k d).bind fun r18 =>
 (disk.find_v.c k r18 name).bind fun r21 =>
 if r21 < 0 then
  some (r18, 8)
 else
  (disk.meets_v.c k name 2 r18).bind fun r22 =>
  if r22.2.1 = true then
   some ({ r18 with Faults := r22.2.2.Faults }, 15)
  else
   need (InB r21 r18.Files.length) <|
   need (InB r21 r18.Files.length) <|
   need (InB r21 r18.Files.length) <|
   need (InB r21 r18.Files.length) <|
   some ({ r22.2.2 with Files := upd r18.Files r21 { (ix r18.Files r21) with Synced := ((ix r18.Files r21).Data.length : Int) } }, 0)

theorem disk.Sync.c_le (k : Nat) (d : api.Disk) (name : List UInt8) : OLe (disk.Sync.c k d name) (disk.Sync d name) := by
 unfold disk.Sync.c disk.Sync
 repeat' with_reducible first | exact OLe.refl _ | apply disk.own.c_le | apply disk.find_v.c_le | apply disk.meets_v.c_le | apply OLe.bind | apply OLe.need | apply OLe.letO | apply OLe.onSum | apply OLe.ite | intro _

def slices.IndexFunc_api_File_disk_find_1.body0.c (k : Nat) (s_ : List api.File) (b0_ : List UInt8) (s72 : slices.IndexFunc_api_File_disk_find_1.S0) : Option (slices.IndexFunc_api_File_disk_find_1.S0 ⊕ (Unit ⊕ Int)) :=
 if s72.t8 < (s_.length : Int) then
  need (InB s72.t8 s_.length) <|
  (disk.find_1.c k (ix s_ s72.t8) b0_).bind fun r77 =>
  if r77 = true then
   some (.inr (.inr s72.t8))
  else
   some (.inl ⟨IntKind.wrap .i64 (s72.t8 + 1)⟩)
 else
  some (.inr (.inl ()))

theorem slices.IndexFunc_api_File_disk_find_1.body0.c_le (k : Nat) (s_ : List api.File) (b0_ : List UInt8) (s72 : slices.IndexFunc_api_File_disk_find_1.S0) : OLe (slices.IndexFunc_api_File_disk_find_1.body0.c k s_ b0_ s72) (slices.IndexFunc_api_File_disk_find_1.body0 s_ b0_ s72) := by
 unfold slices.IndexFunc_api_File_disk_find_1.body0.c slices.IndexFunc_api_File_disk_find_1.body0
 repeat' with_reducible first | exact OLe.refl _ | apply disk.find_1.c_le | apply OLe.bind | apply OLe.need | apply OLe.letO | apply OLe.onSum | apply OLe.ite | intro _

def slices.IndexFunc_api_File_disk_find_1.loop0.c (k : Nat) (s_ : List api.File) (b0_ : List UInt8) (s72 : slices.IndexFunc_api_File_disk_find_1.S0) : Option (Unit ⊕ Int) := iterO (slices.IndexFunc_api_File_disk_find_1.body0.c k s_ b0_) k s72

theorem slices.IndexFunc_api_File_disk_find_1.loop0.c_le (k : Nat) (s_ : List api.File) (b0_ : List UInt8) (s72 : slices.IndexFunc_api_File_disk_find_1.S0) : OLe (slices.IndexFunc_api_File_disk_find_1.loop0.c k s_ b0_ s72) (slices.IndexFunc_api_File_disk_find_1.loop0 s_ b0_ s72) := by
 unfold slices.IndexFunc_api_File_disk_find_1.loop0.c slices.IndexFunc_api_File_disk_find_1.loop0
 exact OLe.iter (fun s => slices.IndexFunc_api_File_disk_find_1.body0.c_le k s_ b0_ s) k _

def slices.IndexFunc_api_File_disk_find_1.c (k : Nat) (s_ : List api.File) (b0_ : List UInt8) : Option Int :=
 (slices.IndexFunc_api_File_disk_find_1.loop0.c k s_ b0_ ⟨0⟩).bind fun s80 => onSum s80 (fun s59 =>
  some (-1)) fun s80x => some s80x

theorem slices.IndexFunc_api_File_disk_find_1.c_le (k : Nat) (s_ : List api.File) (b0_ : List UInt8) : OLe (slices.IndexFunc_api_File_disk_find_1.c k s_ b0_) (slices.IndexFunc_api_File_disk_find_1 s_ b0_) := by
 unfold slices.IndexFunc_api_File_disk_find_1.c slices.IndexFunc_api_File_disk_find_1
 repeat' with_reducible first | exact OLe.refl _ | apply slices.IndexFunc_api_File_disk_find_1.loop0.c_le | apply OLe.bind | apply OLe.need | apply OLe.letO | apply OLe.onSum | apply OLe.ite | intro _

def disk.find.c (k : Nat) (d : api.Disk) (name : List UInt8) : Option Int :=
 (slices.IndexFunc_api_File_disk_find_1.c k d.Files name).bind fun r6 =>
 some r6

theorem disk.find.c_le (k : Nat) (d : api.Disk) (name : List UInt8) : OLe (disk.find.c k d name) (disk.find d name) := by
 unfold disk.find.c disk.find
 repeat' with_reducible first | exact OLe.refl _ | apply slices.IndexFunc_api_File_disk_find_1.c_le | apply OLe.bind | apply OLe.need | apply OLe.letO | apply OLe.onSum | apply OLe.ite | intro _

def disk.Crash_1.c (k : Nat) (k_ : api.Keep) (a1_ : api.File) : Option Bool :=
 some (decide (k_.Name = a1_.Name))

theorem disk.Crash_1.c_le (k : Nat) (k_ : api.Keep) (a1_ : api.File) : OLe (disk.Crash_1.c k k_ a1_) (disk.Crash_1 k_ a1_) := by
 unfold disk.Crash_1.c disk.Crash_1
 repeat' with_reducible first | exact OLe.refl _ | apply OLe.bind | apply OLe.need | apply OLe.letO | apply OLe.onSum | apply OLe.ite | intro _

def slices.IndexFunc_api_Keep_disk_Crash_1.body0.c (k : Nat) (s_ : List api.Keep) (b0_ : api.File) (s72 : slices.IndexFunc_api_Keep_disk_Crash_1.S0) : Option (slices.IndexFunc_api_Keep_disk_Crash_1.S0 ⊕ (Unit ⊕ Int)) :=
 if s72.t8 < (s_.length : Int) then
  need (InB s72.t8 s_.length) <|
  (disk.Crash_1.c k (ix s_ s72.t8) b0_).bind fun r77 =>
  if r77 = true then
   some (.inr (.inr s72.t8))
  else
   some (.inl ⟨IntKind.wrap .i64 (s72.t8 + 1)⟩)
 else
  some (.inr (.inl ()))

theorem slices.IndexFunc_api_Keep_disk_Crash_1.body0.c_le (k : Nat) (s_ : List api.Keep) (b0_ : api.File) (s72 : slices.IndexFunc_api_Keep_disk_Crash_1.S0) : OLe (slices.IndexFunc_api_Keep_disk_Crash_1.body0.c k s_ b0_ s72) (slices.IndexFunc_api_Keep_disk_Crash_1.body0 s_ b0_ s72) := by
 unfold slices.IndexFunc_api_Keep_disk_Crash_1.body0.c slices.IndexFunc_api_Keep_disk_Crash_1.body0
 repeat' with_reducible first | exact OLe.refl _ | apply disk.Crash_1.c_le | apply OLe.bind | apply OLe.need | apply OLe.letO | apply OLe.onSum | apply OLe.ite | intro _

def slices.IndexFunc_api_Keep_disk_Crash_1.loop0.c (k : Nat) (s_ : List api.Keep) (b0_ : api.File) (s72 : slices.IndexFunc_api_Keep_disk_Crash_1.S0) : Option (Unit ⊕ Int) := iterO (slices.IndexFunc_api_Keep_disk_Crash_1.body0.c k s_ b0_) k s72

theorem slices.IndexFunc_api_Keep_disk_Crash_1.loop0.c_le (k : Nat) (s_ : List api.Keep) (b0_ : api.File) (s72 : slices.IndexFunc_api_Keep_disk_Crash_1.S0) : OLe (slices.IndexFunc_api_Keep_disk_Crash_1.loop0.c k s_ b0_ s72) (slices.IndexFunc_api_Keep_disk_Crash_1.loop0 s_ b0_ s72) := by
 unfold slices.IndexFunc_api_Keep_disk_Crash_1.loop0.c slices.IndexFunc_api_Keep_disk_Crash_1.loop0
 exact OLe.iter (fun s => slices.IndexFunc_api_Keep_disk_Crash_1.body0.c_le k s_ b0_ s) k _

def slices.IndexFunc_api_Keep_disk_Crash_1.c (k : Nat) (s_ : List api.Keep) (b0_ : api.File) : Option Int :=
 (slices.IndexFunc_api_Keep_disk_Crash_1.loop0.c k s_ b0_ ⟨0⟩).bind fun s80 => onSum s80 (fun s59 =>
  some (-1)) fun s80x => some s80x

theorem slices.IndexFunc_api_Keep_disk_Crash_1.c_le (k : Nat) (s_ : List api.Keep) (b0_ : api.File) : OLe (slices.IndexFunc_api_Keep_disk_Crash_1.c k s_ b0_) (slices.IndexFunc_api_Keep_disk_Crash_1 s_ b0_) := by
 unfold slices.IndexFunc_api_Keep_disk_Crash_1.c slices.IndexFunc_api_Keep_disk_Crash_1
 repeat' with_reducible first | exact OLe.refl _ | apply slices.IndexFunc_api_Keep_disk_Crash_1.loop0.c_le | apply OLe.bind | apply OLe.need | apply OLe.letO | apply OLe.onSum | apply OLe.ite | intro _

def disk.Crash.body0.c (k : Nat) (d : api.Disk) (keeps : List api.Keep) (s498 : disk.Crash.S0) : Option (disk.Crash.S0 ⊕ (List api.File)) :=
 if s498.t13 < (d.Files.length : Int) then
  (
   need (InB s498.t13 d.Files.length) <|
   (disk.find.c k d (ix d.Files s498.t13).Name).bind fun r527 =>
   if r527 = s498.t13 then
    (disk.safe.c k (ix d.Files s498.t13)).bind fun r528 =>
    (slices.IndexFunc_api_Keep_disk_Crash_1.c k keeps (ix d.Files s498.t13)).bind fun r529 =>
    (
     if 0 ≤ r529 then
      need (InB r529 keeps.length) <|
      letO (IntKind.wrap .i64 (r528 + (if (IntKind.wrap .i64 (((ix d.Files s498.t13).Data.length : Int) - r528)) < (if (ix keeps r529).Bytes < 0 then 0 else (ix keeps r529).Bytes) then (IntKind.wrap .i64 (((ix d.Files s498.t13).Data.length : Int) - r528)) else (if (ix keeps r529).Bytes < 0 then 0 else (ix keeps r529).Bytes)))) fun x537 =>
      some x537
     else
      some r528).bind fun s533 =>
    need (InR 0 s533 (ix d.Files s498.t13).Data.length) <|
    need ((s498.l.length + [({ Name := (ix d.Files s498.t13).Name, Data := sub (ix d.Files s498.t13).Data 0 s533, Synced := s533 } : api.File)].length) * 40 ≤ 140737488355328) <|
    some (s498.l ++ [({ Name := (ix d.Files s498.t13).Name, Data := sub (ix d.Files s498.t13).Data 0 s533, Synced := s533 } : api.File)])
   else
    some s498.l).bind fun s521 =>
  some (.inl ⟨s521, IntKind.wrap .i64 (s498.t13 + 1)⟩)
 else
  some (.inr s498.l)

theorem disk.Crash.body0.c_le (k : Nat) (d : api.Disk) (keeps : List api.Keep) (s498 : disk.Crash.S0) : OLe (disk.Crash.body0.c k d keeps s498) (disk.Crash.body0 d keeps s498) := by
 unfold disk.Crash.body0.c disk.Crash.body0
 repeat' with_reducible first | exact OLe.refl _ | apply disk.find.c_le | apply disk.safe.c_le | apply slices.IndexFunc_api_Keep_disk_Crash_1.c_le | apply OLe.bind | apply OLe.need | apply OLe.letO | apply OLe.onSum | apply OLe.ite | intro _

def disk.Crash.loop0.c (k : Nat) (d : api.Disk) (keeps : List api.Keep) (s498 : disk.Crash.S0) : Option (List api.File) := iterO (disk.Crash.body0.c k d keeps) k s498

theorem disk.Crash.loop0.c_le (k : Nat) (d : api.Disk) (keeps : List api.Keep) (s498 : disk.Crash.S0) : OLe (disk.Crash.loop0.c k d keeps s498) (disk.Crash.loop0 d keeps s498) := by
 unfold disk.Crash.loop0.c disk.Crash.loop0
 exact OLe.iter (fun s => disk.Crash.body0.c_le k d keeps s) k _

def disk.Crash.c (k : Nat) (d : api.Disk) (keeps : List api.Keep) : Option api.Disk :=
 (disk.Crash.loop0.c k d keeps ⟨([] : List api.File), 0⟩).bind fun s408 =>
 some ({ Files := s408, Faults := ([] : List api.Fault) } : api.Disk)

theorem disk.Crash.c_le (k : Nat) (d : api.Disk) (keeps : List api.Keep) : OLe (disk.Crash.c k d keeps) (disk.Crash d keeps) := by
 unfold disk.Crash.c disk.Crash
 repeat' with_reducible first | exact OLe.refl _ | apply disk.Crash.loop0.c_le | apply OLe.bind | apply OLe.need | apply OLe.letO | apply OLe.onSum | apply OLe.ite | intro _

def disk.Read.c (k : Nat) (d : api.Disk) (name : List UInt8) : Option ((List UInt8) × Int) :=
 (disk.find.c k d name).bind fun r6 =>
 if r6 < 0 then
  some (([] : List UInt8), 8)
 else
  need (InB r6 d.Files.length) <|
  some ((ix d.Files r6).Data, 0)

theorem disk.Read.c_le (k : Nat) (d : api.Disk) (name : List UInt8) : OLe (disk.Read.c k d name) (disk.Read d name) := by
 unfold disk.Read.c disk.Read
 repeat' with_reducible first | exact OLe.refl _ | apply disk.find.c_le | apply OLe.bind | apply OLe.need | apply OLe.letO | apply OLe.onSum | apply OLe.ite | intro _

def disk.Safe.c (k : Nat) (d : api.Disk) (name : List UInt8) : Option (List UInt8) :=
 (disk.find.c k d name).bind fun r9 =>
 if r9 < 0 then
  some ([] : List UInt8)
 else
  need (InB r9 d.Files.length) <|
  need (InB r9 d.Files.length) <|
  (disk.safe.c k (ix d.Files r9)).bind fun r12 =>
  need (InR 0 r12 (ix d.Files r9).Data.length) <|
  some (sub (ix d.Files r9).Data 0 r12)

theorem disk.Safe.c_le (k : Nat) (d : api.Disk) (name : List UInt8) : OLe (disk.Safe.c k d name) (disk.Safe d name) := by
 unfold disk.Safe.c disk.Safe
 repeat' with_reducible first | exact OLe.refl _ | apply disk.find.c_le | apply disk.safe.c_le | apply OLe.bind | apply OLe.need | apply OLe.letO | apply OLe.onSum | apply OLe.ite | intro _

def mewslaw16.alive.c (k : Nat)  : Option Bool :=
 (disk.Write.c k ({ Files := ([] : List api.File), Faults := ([] : List api.Fault) } : api.Disk) [102] [97]).bind fun r29 =>
 (disk.Sync.c k r29.1 [102]).bind fun r33 =>
 (disk.Write.c k r33.1 [102] [98, 99]).bind fun r36 =>
 (disk.Crash.c k r36.1 [({ Name := [102], Bytes := 1 } : api.Keep)]).bind fun r39 =>
 (disk.Read.c k r39 [102]).bind fun r41 =>
 (
  if r29.2.1 = 1 then
   if r29.2.2 = 0 then
    if r33.2 = 0 then
     if r41.1 = [97, 98] then
      if r41.2 = 0 then
       (disk.Safe.c k r36.1 [102]).bind fun r56 =>
       some (decide (r56 = [97]))
      else
       some false
     else
      some false
    else
     some false
   else
    some false
  else
   some false).bind fun s48 =>
 some s48

theorem mewslaw16.alive.c_le (k : Nat)  : OLe (mewslaw16.alive.c k ) (mewslaw16.alive ) := by
 unfold mewslaw16.alive.c mewslaw16.alive
 repeat' with_reducible first | exact OLe.refl _ | apply disk.Write.c_le | apply disk.Sync.c_le | apply disk.Crash.c_le | apply disk.Read.c_le | apply disk.Safe.c_le | apply OLe.bind | apply OLe.need | apply OLe.letO | apply OLe.onSum | apply OLe.ite | intro _

end Go.Pu
