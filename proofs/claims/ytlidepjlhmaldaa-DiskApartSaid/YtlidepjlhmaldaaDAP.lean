/- Printed by lift.py: the functions over data. -/
import Derived.Test.YtlidepjlhmaldaaDAT
set_option maxRecDepth 100000
set_option maxHeartbeats 0
namespace Go.Pu
open Go.Lift

structure mewslaw16.Far.S0 where
 n : Int
 t13 : Int

noncomputable def mewslaw16.Far.body0 (d : api.Disk) (s138 : mewslaw16.Far.S0) : Option (mewslaw16.Far.S0 ⊕ (Int ⊕ Bool)) :=
 if s138.t13 < (d.Files.length : Int) then
  need (InB s138.t13 d.Files.length) <|
  letO (IntKind.wrap .i64 (s138.n + (IntKind.wrap .i64 ((if 10000 < ((ix d.Files s138.t13).Data.length : Int) then 10000 else ((ix d.Files s138.t13).Data.length : Int)) + (if 10000 < ((ix d.Files s138.t13).Name.length : Int) then 10000 else ((ix d.Files s138.t13).Name.length : Int)))))) fun x144 =>
  if 5000 < x144 then
   some (.inr (.inr true))
  else
   some (.inl ⟨x144, IntKind.wrap .i64 (s138.t13 + 1)⟩)
 else
  some (.inr (.inl s138.n))

noncomputable def mewslaw16.Far.loop0 (d : api.Disk) (s138 : mewslaw16.Far.S0) : Option (Int ⊕ Bool) := whileO (mewslaw16.Far.body0 d) s138

structure mewslaw16.Far.S2 where
 n : Int
 t33 : Int

noncomputable def mewslaw16.Far.body2 (l : List mewslaw16.Op) (s183 : mewslaw16.Far.S2) : Option (mewslaw16.Far.S2 ⊕ (Unit ⊕ Bool)) :=
 if s183.t33 < (l.length : Int) then
  need (InB s183.t33 l.length) <|
  letO (IntKind.wrap .i64 (s183.n + (IntKind.wrap .i64 ((if 10000 < ((ix l s183.t33).S.length : Int) then 10000 else ((ix l s183.t33).S.length : Int)) + (if 10000 < ((ix l s183.t33).Name.length : Int) then 10000 else ((ix l s183.t33).Name.length : Int)))))) fun x189 =>
  if 5000 < x189 then
   some (.inr (.inr true))
  else
   some (.inl ⟨x189, IntKind.wrap .i64 (s183.t33 + 1)⟩)
 else
  some (.inr (.inl ()))

noncomputable def mewslaw16.Far.loop2 (l : List mewslaw16.Op) (s183 : mewslaw16.Far.S2) : Option (Unit ⊕ Bool) := whileO (mewslaw16.Far.body2 l) s183

noncomputable def mewslaw16.Far (d : api.Disk) (l : List mewslaw16.Op) : Option Bool :=
 (mewslaw16.Far.loop0 d ⟨0, 0⟩).bind fun s200 => onSum s200 (fun s123 =>
  (mewslaw16.Far.loop2 l ⟨s123, 0⟩).bind fun s199 => onSum s199 (fun s168 =>
   letO (
    if 40 < (d.Files.length : Int) then
     true
    else
     if 100 < (d.Faults.length : Int) then
      true
     else
      decide (100 < (l.length : Int))) fun s194 =>
   some s194) fun s199x => some s199x) fun s200x => some s200x

noncomputable def slices.Clone_api_File (s : List api.File) : Option (List api.File) :=
 need ((([] : List api.File).length + s.length) * 40 ≤ 140737488355328) <|
 some s

noncomputable def slices.Clone_api_Fault (s : List api.Fault) : Option (List api.Fault) :=
 need ((([] : List api.Fault).length + s.length) * 32 ≤ 140737488355328) <|
 some s

noncomputable def disk.own (d : api.Disk) : Option api.Disk :=
 (slices.Clone_api_File d.Files).bind fun r9 =>
 (slices.Clone_api_Fault d.Faults).bind fun r11 =>
 some ({ Files := r9, Faults := r11 } : api.Disk)

noncomputable def disk.meets_1 (f : api.Fault) (a1_ : List UInt8) (a2_ : Int) : Option Bool :=
 letO (
  if f.Name = a1_ then
   decide (f.Kind = a2_)
  else
   false) fun s9 =>
 some s9

structure slices.IndexFunc_api_Fault_v_disk_meets_1.S0 where
 t8 : Int

noncomputable def slices.IndexFunc_api_Fault_v_disk_meets_1.body0 (s_ : List api.Fault) (b1_ : List UInt8) (b2_ : Int) (s83 : slices.IndexFunc_api_Fault_v_disk_meets_1.S0) : Option (slices.IndexFunc_api_Fault_v_disk_meets_1.S0 ⊕ (Unit ⊕ Int)) :=
 if s83.t8 < (s_.length : Int) then
  need (InB s83.t8 s_.length) <|
  need (InB s83.t8 s_.length) <|
  (disk.meets_1 (ix s_ s83.t8) b1_ b2_).bind fun r89 =>
  if r89 = true then
   some (.inr (.inr s83.t8))
  else
   some (.inl ⟨IntKind.wrap .i64 (s83.t8 + 1)⟩)
 else
  some (.inr (.inl ()))

noncomputable def slices.IndexFunc_api_Fault_v_disk_meets_1.loop0 (s_ : List api.Fault) (b1_ : List UInt8) (b2_ : Int) (s83 : slices.IndexFunc_api_Fault_v_disk_meets_1.S0) : Option (Unit ⊕ Int) := whileO (slices.IndexFunc_api_Fault_v_disk_meets_1.body0 s_ b1_ b2_) s83

noncomputable def slices.IndexFunc_api_Fault_v_disk_meets_1 (s_ : List api.Fault) (b1_ : List UInt8) (b2_ : Int) : Option Int :=
 (slices.IndexFunc_api_Fault_v_disk_meets_1.loop0 s_ b1_ b2_ ⟨0⟩).bind fun s92 => onSum s92 (fun s68 =>
  some (-1)) fun s92x => some s92x

noncomputable def slices.Delete_api_Fault_v (s_ : List api.Fault) (i : Int) (j : Int) : Option (List api.Fault) :=
 need (0 ≤ i ∧ i ≤ j ∧ j ≤ (s_.length : Int) ∧ (s_.length : Int) ≤ (s_.length : Int)) <|
 if i = j then
  some s_
 else
  need (InR 0 i s_.length) <|
  need (InR j (s_.length : Int) s_.length) <|
  need (0 ≤ i ∧ i ≤ j ∧ j ≤ (s_.length : Int) ∧ (s_.length : Int) = (s_.length : Int)) <|
  need ((0 : Int) ≤ 0 ∧ 0 ≤ (i + ((s_.length : Int) - j))) <|
  need (InP 0 (i + ((s_.length : Int) - j)) (mvL s_ (Int.toNat i) (Int.toNat j)).length) <|
  need (0 ≤ ((i + ((s_.length : Int) - j)) - 0) ∧ ((i + ((s_.length : Int) - j)) - 0) ≤ (s_.length : Int) ∧ 0 + (s_.length : Int) ≤ ((mvL s_ (Int.toNat i) (Int.toNat j)).length : Int)) <|
  need (InP (0 + ((i + ((s_.length : Int) - j)) - 0)) (0 + (s_.length : Int)) (mvL s_ (Int.toNat i) (Int.toNat j)).length) <|
  need (0 ≤ (i + ((s_.length : Int) - j)) ∧ (i + ((s_.length : Int) - j)) ≤ ((clrL (mvL s_ (Int.toNat i) (Int.toNat j)) (Int.toNat (0 + ((i + ((s_.length : Int) - j)) - 0))) (Int.toNat (0 + (s_.length : Int))) (({ Name := ([] : List UInt8), Kind := 0, Short := 0 } : api.Fault) : api.Fault)).length : Int)) <|
  some (List.take (Int.toNat (i + ((s_.length : Int) - j))) (clrL (mvL s_ (Int.toNat i) (Int.toNat j)) (Int.toNat (0 + ((i + ((s_.length : Int) - j)) - 0))) (Int.toNat (0 + (s_.length : Int))) (({ Name := ([] : List UInt8), Kind := 0, Short := 0 } : api.Fault) : api.Fault)))

noncomputable def disk.meets_v (name : List UInt8) (kind : Int) (d : api.Disk) : Option (api.Fault × Bool × api.Disk) :=
 (slices.IndexFunc_api_Fault_v_disk_meets_1 d.Faults name kind).bind fun r14 =>
 if r14 < 0 then
  some (({ Name := ([] : List UInt8), Kind := 0, Short := 0 } : api.Fault), false, d)
 else
  need (InB r14 d.Faults.length) <|
  need (InB r14 d.Faults.length) <|
  (slices.Delete_api_Fault_v d.Faults r14 (IntKind.wrap .i64 (r14 + 1))).bind fun r18 =>
  some ((ix d.Faults r14), true, { d with Faults := r18 })

noncomputable def disk.find_1 (f : api.File) (a1_ : List UInt8) : Option Bool :=
 some (decide (f.Name = a1_))

structure slices.IndexFunc_api_File_v_disk_find_1.S0 where
 t8 : Int

noncomputable def slices.IndexFunc_api_File_v_disk_find_1.body0 (s_ : List api.File) (b1_ : List UInt8) (s83 : slices.IndexFunc_api_File_v_disk_find_1.S0) : Option (slices.IndexFunc_api_File_v_disk_find_1.S0 ⊕ (Unit ⊕ Int)) :=
 if s83.t8 < (s_.length : Int) then
  need (InB s83.t8 s_.length) <|
  need (InB s83.t8 s_.length) <|
  (disk.find_1 (ix s_ s83.t8) b1_).bind fun r89 =>
  if r89 = true then
   some (.inr (.inr s83.t8))
  else
   some (.inl ⟨IntKind.wrap .i64 (s83.t8 + 1)⟩)
 else
  some (.inr (.inl ()))

noncomputable def slices.IndexFunc_api_File_v_disk_find_1.loop0 (s_ : List api.File) (b1_ : List UInt8) (s83 : slices.IndexFunc_api_File_v_disk_find_1.S0) : Option (Unit ⊕ Int) := whileO (slices.IndexFunc_api_File_v_disk_find_1.body0 s_ b1_) s83

noncomputable def slices.IndexFunc_api_File_v_disk_find_1 (s_ : List api.File) (b1_ : List UInt8) : Option Int :=
 (slices.IndexFunc_api_File_v_disk_find_1.loop0 s_ b1_ ⟨0⟩).bind fun s92 => onSum s92 (fun s68 =>
  some (-1)) fun s92x => some s92x

noncomputable def disk.find_v (d : api.Disk) (name : List UInt8) : Option Int :=
 (slices.IndexFunc_api_File_v_disk_find_1 d.Files name).bind fun r6 =>
 some r6

noncomputable def disk.safe (f : api.File) : Option Int :=
 some (if (f.Data.length : Int) < (if f.Synced < 0 then 0 else f.Synced) then (f.Data.length : Int) else (if f.Synced < 0 then 0 else f.Synced))

noncomputable def disk.Write (d : api.Disk) (name : List UInt8) (s_ : List UInt8) : Option (api.Disk × Int × Int) :=
 (disk.own d).bind fun r40 =>
 (
  (disk.meets_v name 1 r40).bind fun r52 =>
  if r52.2.1 = true then
   need (InR 0 (if (s_.length : Int) < (if r52.1.Short < 0 then 0 else r52.1.Short) then (s_.length : Int) else (if r52.1.Short < 0 then 0 else r52.1.Short)) s_.length) <|
   some (sub s_ 0 (if (s_.length : Int) < (if r52.1.Short < 0 then 0 else r52.1.Short) then (s_.length : Int) else (if r52.1.Short < 0 then 0 else r52.1.Short)), 15, r52.2.2.Faults)
  else
   some (s_, 0, r52.2.2.Faults)).bind fun s48 =>
 (disk.find_v { r40 with Faults := s48.2.2 } name).bind fun r57 =>
 (
  if r57 < 0 then
   need ((r40.Files.length + [({ Name := name, Data := ([] : List UInt8), Synced := 0 } : api.File)].length) * 40 ≤ 140737488355328) <|
   some ((r40.Files.length : Int), r40.Files ++ [({ Name := name, Data := ([] : List UInt8), Synced := 0 } : api.File)])
  else
   some (r57, r40.Files)).bind fun s61 =>
 need (InB s61.1 s61.2.length) <|
 need (InB s61.1 s61.2.length) <|
 (disk.safe (ix s61.2 s61.1)).bind fun r70 =>
 need (InB s61.1 s61.2.length) <|
 need (InB s61.1 (upd s61.2 s61.1 { (ix s61.2 s61.1) with Synced := r70 }).length) <|
 need ((ix (upd s61.2 s61.1 { (ix s61.2 s61.1) with Synced := r70 }) s61.1).Data.length + s48.1.length ≤ 9223372036854775807) <|
 need (InB s61.1 (upd s61.2 s61.1 { (ix s61.2 s61.1) with Synced := r70 }).length) <|
 some (({ Files := upd (upd s61.2 s61.1 { (ix s61.2 s61.1) with Synced := r70 }) s61.1 ({ Name := (ix (upd s61.2 s61.1 { (ix s61.2 s61.1) with Synced := r70 }) s61.1).Name, Data := (ix (upd s61.2 s61.1 { (ix s61.2 s61.1) with Synced := r70 }) s61.1).Data ++ s48.1, Synced := (ix (upd s61.2 s61.1 { (ix s61.2 s61.1) with Synced := r70 }) s61.1).Synced } : api.File), Faults := s48.2.2 } : api.Disk), (s48.1.length : Int), s48.2.1)

noncomputable def disk.Sync (d : api.Disk) (name : List UInt8) : Option (api.Disk × Int) :=
 (disk.own d).bind fun r18 =>
 (disk.find_v r18 name).bind fun r21 =>
 if r21 < 0 then
  some (r18, 8)
 else
  (disk.meets_v name 2 r18).bind fun r22 =>
  if r22.2.1 = true then
   some ({ r18 with Faults := r22.2.2.Faults }, 15)
  else
   need (InB r21 r18.Files.length) <|
   need (InB r21 r18.Files.length) <|
   need (InB r21 r18.Files.length) <|
   need (InB r21 r18.Files.length) <|
   some ({ r22.2.2 with Files := upd r18.Files r21 { (ix r18.Files r21) with Synced := ((ix r18.Files r21).Data.length : Int) } }, 0)

structure slices.IndexFunc_api_File_disk_find_1.S0 where
 t8 : Int

noncomputable def slices.IndexFunc_api_File_disk_find_1.body0 (s_ : List api.File) (b0_ : List UInt8) (s72 : slices.IndexFunc_api_File_disk_find_1.S0) : Option (slices.IndexFunc_api_File_disk_find_1.S0 ⊕ (Unit ⊕ Int)) :=
 if s72.t8 < (s_.length : Int) then
  need (InB s72.t8 s_.length) <|
  (disk.find_1 (ix s_ s72.t8) b0_).bind fun r77 =>
  if r77 = true then
   some (.inr (.inr s72.t8))
  else
   some (.inl ⟨IntKind.wrap .i64 (s72.t8 + 1)⟩)
 else
  some (.inr (.inl ()))

noncomputable def slices.IndexFunc_api_File_disk_find_1.loop0 (s_ : List api.File) (b0_ : List UInt8) (s72 : slices.IndexFunc_api_File_disk_find_1.S0) : Option (Unit ⊕ Int) := whileO (slices.IndexFunc_api_File_disk_find_1.body0 s_ b0_) s72

noncomputable def slices.IndexFunc_api_File_disk_find_1 (s_ : List api.File) (b0_ : List UInt8) : Option Int :=
 (slices.IndexFunc_api_File_disk_find_1.loop0 s_ b0_ ⟨0⟩).bind fun s80 => onSum s80 (fun s59 =>
  some (-1)) fun s80x => some s80x

noncomputable def disk.find (d : api.Disk) (name : List UInt8) : Option Int :=
 (slices.IndexFunc_api_File_disk_find_1 d.Files name).bind fun r6 =>
 some r6

noncomputable def disk.Crash_1 (k_ : api.Keep) (a1_ : api.File) : Option Bool :=
 some (decide (k_.Name = a1_.Name))

structure slices.IndexFunc_api_Keep_disk_Crash_1.S0 where
 t8 : Int

noncomputable def slices.IndexFunc_api_Keep_disk_Crash_1.body0 (s_ : List api.Keep) (b0_ : api.File) (s72 : slices.IndexFunc_api_Keep_disk_Crash_1.S0) : Option (slices.IndexFunc_api_Keep_disk_Crash_1.S0 ⊕ (Unit ⊕ Int)) :=
 if s72.t8 < (s_.length : Int) then
  need (InB s72.t8 s_.length) <|
  (disk.Crash_1 (ix s_ s72.t8) b0_).bind fun r77 =>
  if r77 = true then
   some (.inr (.inr s72.t8))
  else
   some (.inl ⟨IntKind.wrap .i64 (s72.t8 + 1)⟩)
 else
  some (.inr (.inl ()))

noncomputable def slices.IndexFunc_api_Keep_disk_Crash_1.loop0 (s_ : List api.Keep) (b0_ : api.File) (s72 : slices.IndexFunc_api_Keep_disk_Crash_1.S0) : Option (Unit ⊕ Int) := whileO (slices.IndexFunc_api_Keep_disk_Crash_1.body0 s_ b0_) s72

noncomputable def slices.IndexFunc_api_Keep_disk_Crash_1 (s_ : List api.Keep) (b0_ : api.File) : Option Int :=
 (slices.IndexFunc_api_Keep_disk_Crash_1.loop0 s_ b0_ ⟨0⟩).bind fun s80 => onSum s80 (fun s59 =>
  some (-1)) fun s80x => some s80x

structure disk.Crash.S0 where
 l : List api.File
 t13 : Int

noncomputable def disk.Crash.body0 (d : api.Disk) (keeps : List api.Keep) (s498 : disk.Crash.S0) : Option (disk.Crash.S0 ⊕ (List api.File)) :=
 if s498.t13 < (d.Files.length : Int) then
  (
   need (InB s498.t13 d.Files.length) <|
   (disk.find d (ix d.Files s498.t13).Name).bind fun r527 =>
   if r527 = s498.t13 then
    (disk.safe (ix d.Files s498.t13)).bind fun r528 =>
    (slices.IndexFunc_api_Keep_disk_Crash_1 keeps (ix d.Files s498.t13)).bind fun r529 =>
    (
     if 0 ≤ r529 then
      need (InB r529 keeps.length) <|
      letO (IntKind.wrap .i64 (r528 + (if (IntKind.wrap .i64 (((ix d.Files s498.t13).Data.length : Int) - r528)) < (if (ix keeps r529).Bytes < 0 then 0 else (ix keeps r529).Bytes) then (IntKind.wrap .i64 (((ix d.Files s498.t13).Data.length : Int) - r528)) else (if (ix keeps r529).Bytes < 0 then 0 else (ix keeps r529).Bytes)))) fun x537 =>
      some x537
     else
      some r528).bind fun s533 =>
    need (InR 0 s533 (ix d.Files s498.t13).Data.length) <|
    need ((s498.l.length + [({ Name := (ix d.Files s498.t13).Name, Data := sub (ix d.Files s498.t13).Data 0 s533, Synced := s533 } : api.File)].length) * 40 ≤ 140737488355328) <|
    some (s498.l ++ [({ Name := (ix d.Files s498.t13).Name, Data := sub (ix d.Files s498.t13).Data 0 s533, Synced := s533 } : api.File)])
   else
    some s498.l).bind fun s521 =>
  some (.inl ⟨s521, IntKind.wrap .i64 (s498.t13 + 1)⟩)
 else
  some (.inr s498.l)

noncomputable def disk.Crash.loop0 (d : api.Disk) (keeps : List api.Keep) (s498 : disk.Crash.S0) : Option (List api.File) := whileO (disk.Crash.body0 d keeps) s498

noncomputable def disk.Crash (d : api.Disk) (keeps : List api.Keep) : Option api.Disk :=
 (disk.Crash.loop0 d keeps ⟨([] : List api.File), 0⟩).bind fun s408 =>
 some ({ Files := s408, Faults := ([] : List api.Fault) } : api.Disk)

noncomputable def disk.Read (d : api.Disk) (name : List UInt8) : Option ((List UInt8) × Int) :=
 (disk.find d name).bind fun r6 =>
 if r6 < 0 then
  some (([] : List UInt8), 8)
 else
  need (InB r6 d.Files.length) <|
  some ((ix d.Files r6).Data, 0)

noncomputable def disk.Safe (d : api.Disk) (name : List UInt8) : Option (List UInt8) :=
 (disk.find d name).bind fun r9 =>
 if r9 < 0 then
  some ([] : List UInt8)
 else
  need (InB r9 d.Files.length) <|
  need (InB r9 d.Files.length) <|
  (disk.safe (ix d.Files r9)).bind fun r12 =>
  need (InR 0 r12 (ix d.Files r9).Data.length) <|
  some (sub (ix d.Files r9).Data 0 r12)

noncomputable def mewslaw16.alive  : Option Bool :=
 (disk.Write ({ Files := ([] : List api.File), Faults := ([] : List api.Fault) } : api.Disk) [102] [97]).bind fun r29 =>
 (disk.Sync r29.1 [102]).bind fun r33 =>
 (disk.Write r33.1 [102] [98, 99]).bind fun r36 =>
 (disk.Crash r36.1 [({ Name := [102], Bytes := 1 } : api.Keep)]).bind fun r39 =>
 (disk.Read r39 [102]).bind fun r41 =>
 (
  if r29.2.1 = 1 then
   if r29.2.2 = 0 then
    if r33.2 = 0 then
     if r41.1 = [97, 98] then
      if r41.2 = 0 then
       (disk.Safe r36.1 [102]).bind fun r56 =>
       some (decide (r56 = [97]))
      else
       some false
     else
      some false
    else
     some false
   else
    some false
  else
   some false).bind fun s48 =>
 some s48

structure disk.Rename.S0 where
 t40 : Int
 v : List api.File

noncomputable def disk.Rename.body0 (r239 : api.Disk) (r242 : Int) (to : List UInt8) (from_ : List UInt8) (s432 : disk.Rename.S0) : Option (disk.Rename.S0 ⊕ (List api.File)) :=
 if s432.t40 < (r239.Files.length : Int) then
  (
   need (InB s432.t40 r239.Files.length) <|
   need (InB s432.t40 r239.Files.length) <|
   if s432.t40 = r242 then
    need ((s432.v.length + [{ (ix r239.Files r242) with Name := to }].length) * 40 ≤ 140737488355328) <|
    some (s432.v ++ [{ (ix r239.Files r242) with Name := to }])
   else
    letO (
     if (ix r239.Files s432.t40).Name = to then
      false
     else
      (!decide ((ix r239.Files s432.t40).Name = from_))) fun s461 =>
    if s461 = true then
     need ((s432.v.length + [(ix r239.Files s432.t40)].length) * 40 ≤ 140737488355328) <|
     some (s432.v ++ [(ix r239.Files s432.t40)])
    else
     some s432.v).bind fun s451 =>
  some (.inl ⟨IntKind.wrap .i64 (s432.t40 + 1), s451⟩)
 else
  some (.inr s432.v)

noncomputable def disk.Rename.loop0 (r239 : api.Disk) (r242 : Int) (to : List UInt8) (from_ : List UInt8) (s432 : disk.Rename.S0) : Option (List api.File) := whileO (disk.Rename.body0 r239 r242 to from_) s432

noncomputable def disk.Rename (d : api.Disk) (from_ : List UInt8) (to : List UInt8) : Option (api.Disk × Int) :=
 (disk.own d).bind fun r239 =>
 (disk.find_v r239 from_).bind fun r242 =>
 if r242 < 0 then
  some (r239, 8)
 else
  (disk.meets_v from_ 3 r239).bind fun r243 =>
  if r243.2.1 = true then
   some ({ r239 with Faults := r243.2.2.Faults }, 15)
  else
   need (InB r242 r239.Files.length) <|
   need (InB r242 r239.Files.length) <|
   (disk.Rename.loop0 r239 r242 to from_ ⟨0, ([] : List api.File)⟩).bind fun s358 =>
   some ({ r243.2.2 with Files := s358 }, 0)

noncomputable def disk.Remove_1 (f : api.File) (a1_ : List UInt8) : Option Bool :=
 some (decide (f.Name = a1_))

structure slices.IndexFunc_api_File_v_disk_Remove_1.S0 where
 t8 : Int

noncomputable def slices.IndexFunc_api_File_v_disk_Remove_1.body0 (s_ : List api.File) (b1_ : List UInt8) (s83 : slices.IndexFunc_api_File_v_disk_Remove_1.S0) : Option (slices.IndexFunc_api_File_v_disk_Remove_1.S0 ⊕ (Unit ⊕ Int)) :=
 if s83.t8 < (s_.length : Int) then
  need (InB s83.t8 s_.length) <|
  need (InB s83.t8 s_.length) <|
  (disk.Remove_1 (ix s_ s83.t8) b1_).bind fun r89 =>
  if r89 = true then
   some (.inr (.inr s83.t8))
  else
   some (.inl ⟨IntKind.wrap .i64 (s83.t8 + 1)⟩)
 else
  some (.inr (.inl ()))

noncomputable def slices.IndexFunc_api_File_v_disk_Remove_1.loop0 (s_ : List api.File) (b1_ : List UInt8) (s83 : slices.IndexFunc_api_File_v_disk_Remove_1.S0) : Option (Unit ⊕ Int) := whileO (slices.IndexFunc_api_File_v_disk_Remove_1.body0 s_ b1_) s83

noncomputable def slices.IndexFunc_api_File_v_disk_Remove_1 (s_ : List api.File) (b1_ : List UInt8) : Option Int :=
 (slices.IndexFunc_api_File_v_disk_Remove_1.loop0 s_ b1_ ⟨0⟩).bind fun s92 => onSum s92 (fun s68 =>
  some (-1)) fun s92x => some s92x

structure slices.DeleteFunc_api_File_v_disk_Remove_1.S0 where
 i : Int
 j : Int
 v : List api.File

noncomputable def slices.DeleteFunc_api_File_v_disk_Remove_1.body0 (b1_ : List UInt8) (s231 : slices.DeleteFunc_api_File_v_disk_Remove_1.S0) : Option (slices.DeleteFunc_api_File_v_disk_Remove_1.S0 ⊕ (Int × (List api.File))) :=
 if s231.j < (s231.v.length : Int) then
  (
   need (InB s231.j s231.v.length) <|
   need (InB s231.j s231.v.length) <|
   (disk.Remove_1 (ix s231.v s231.j) b1_).bind fun r248 =>
   if (!r248) = true then
    need (InB s231.i s231.v.length) <|
    need (InB s231.i s231.v.length) <|
    some (IntKind.wrap .i64 (s231.i + 1), upd s231.v s231.i (ix s231.v s231.j))
   else
    some (s231.i, s231.v)).bind fun s242 =>
  some (.inl ⟨s242.1, IntKind.wrap .i64 (s231.j + 1), s242.2⟩)
 else
  some (.inr (s231.i, s231.v))

noncomputable def slices.DeleteFunc_api_File_v_disk_Remove_1.loop0 (b1_ : List UInt8) (s231 : slices.DeleteFunc_api_File_v_disk_Remove_1.S0) : Option (Int × (List api.File)) := whileO (slices.DeleteFunc_api_File_v_disk_Remove_1.body0 b1_) s231

noncomputable def slices.DeleteFunc_api_File_v_disk_Remove_1 (s_ : List api.File) (b1_ : List UInt8) : Option (List api.File) :=
 (slices.IndexFunc_api_File_v_disk_Remove_1 s_ b1_).bind fun r129 =>
 if r129 = (-1) then
  some s_
 else
  (slices.DeleteFunc_api_File_v_disk_Remove_1.loop0 b1_ ⟨r129, IntKind.wrap .i64 (r129 + 1), s_⟩).bind fun s190 =>
  need (InR s190.1 (s190.2.length : Int) s190.2.length) <|
  need (InP s190.1 (s190.2.length : Int) s190.2.length) <|
  need (InR 0 s190.1 (clrL s190.2 (Int.toNat s190.1) (Int.toNat (s190.2.length : Int)) (({ Name := ([] : List UInt8), Data := ([] : List UInt8), Synced := 0 } : api.File) : api.File)).length) <|
  need (0 ≤ s190.1 ∧ s190.1 ≤ ((clrL s190.2 (Int.toNat s190.1) (Int.toNat (s190.2.length : Int)) (({ Name := ([] : List UInt8), Data := ([] : List UInt8), Synced := 0 } : api.File) : api.File)).length : Int)) <|
  some (List.take (Int.toNat s190.1) (clrL s190.2 (Int.toNat s190.1) (Int.toNat (s190.2.length : Int)) (({ Name := ([] : List UInt8), Data := ([] : List UInt8), Synced := 0 } : api.File) : api.File)))

noncomputable def disk.Remove (d : api.Disk) (name : List UInt8) : Option api.Disk :=
 (disk.own d).bind fun r12 =>
 (slices.DeleteFunc_api_File_v_disk_Remove_1 r12.Files name).bind fun r15 =>
 some { r12 with Files := r15 }

noncomputable def disk.Cut (d : api.Disk) (name : List UInt8) (n_ : Int) : Option (api.Disk × Int) :=
 (disk.own d).bind fun r18 =>
 (disk.find_v r18 name).bind fun r21 =>
 if r21 < 0 then
  some (r18, 8)
 else
  need (InB r21 r18.Files.length) <|
  need (InB r21 r18.Files.length) <|
  need (InB r21 r18.Files.length) <|
  need (InR 0 (if ((ix r18.Files r21).Data.length : Int) < (if n_ < 0 then 0 else n_) then ((ix r18.Files r21).Data.length : Int) else (if n_ < 0 then 0 else n_)) (ix r18.Files r21).Data.length) <|
  need (InB r21 r18.Files.length) <|
  need (InB r21 (upd r18.Files r21 { (ix r18.Files r21) with Data := sub (ix r18.Files r21).Data 0 (if ((ix r18.Files r21).Data.length : Int) < (if n_ < 0 then 0 else n_) then ((ix r18.Files r21).Data.length : Int) else (if n_ < 0 then 0 else n_)) }).length) <|
  (disk.safe ({ Name := (ix (upd r18.Files r21 { (ix r18.Files r21) with Data := sub (ix r18.Files r21).Data 0 (if ((ix r18.Files r21).Data.length : Int) < (if n_ < 0 then 0 else n_) then ((ix r18.Files r21).Data.length : Int) else (if n_ < 0 then 0 else n_)) }) r21).Name, Data := (ix (upd r18.Files r21 { (ix r18.Files r21) with Data := sub (ix r18.Files r21).Data 0 (if ((ix r18.Files r21).Data.length : Int) < (if n_ < 0 then 0 else n_) then ((ix r18.Files r21).Data.length : Int) else (if n_ < 0 then 0 else n_)) }) r21).Data, Synced := (ix (upd r18.Files r21 { (ix r18.Files r21) with Data := sub (ix r18.Files r21).Data 0 (if ((ix r18.Files r21).Data.length : Int) < (if n_ < 0 then 0 else n_) then ((ix r18.Files r21).Data.length : Int) else (if n_ < 0 then 0 else n_)) }) r21).Synced } : api.File)).bind fun r28 =>
  need (InB r21 (upd r18.Files r21 { (ix r18.Files r21) with Data := sub (ix r18.Files r21).Data 0 (if ((ix r18.Files r21).Data.length : Int) < (if n_ < 0 then 0 else n_) then ((ix r18.Files r21).Data.length : Int) else (if n_ < 0 then 0 else n_)) }).length) <|
  some ({ r18 with Files := upd (upd r18.Files r21 { (ix r18.Files r21) with Data := sub (ix r18.Files r21).Data 0 (if ((ix r18.Files r21).Data.length : Int) < (if n_ < 0 then 0 else n_) then ((ix r18.Files r21).Data.length : Int) else (if n_ < 0 then 0 else n_)) }) r21 ({ Name := (ix (upd r18.Files r21 { (ix r18.Files r21) with Data := sub (ix r18.Files r21).Data 0 (if ((ix r18.Files r21).Data.length : Int) < (if n_ < 0 then 0 else n_) then ((ix r18.Files r21).Data.length : Int) else (if n_ < 0 then 0 else n_)) }) r21).Name, Data := (ix (upd r18.Files r21 { (ix r18.Files r21) with Data := sub (ix r18.Files r21).Data 0 (if ((ix r18.Files r21).Data.length : Int) < (if n_ < 0 then 0 else n_) then ((ix r18.Files r21).Data.length : Int) else (if n_ < 0 then 0 else n_)) }) r21).Data, Synced := r28 } : api.File) }, 0)

noncomputable def mewslaw16.faulty (d : api.Disk) (o_ : mewslaw16.Op) : Option api.Disk :=
 need ((([] : List api.Fault).length + d.Faults.length) * 32 ≤ 140737488355328) <|
 need (((([] : List api.Fault) ++ d.Faults).length + [({ Name := o_.Name, Kind := IntKind.wrap .i64 (o_.Kind - 5), Short := o_.N } : api.Fault)].length) * 32 ≤ 140737488355328) <|
 some { d with Faults := (([] : List api.Fault) ++ d.Faults) ++ [({ Name := o_.Name, Kind := IntKind.wrap .i64 (o_.Kind - 5), Short := o_.N } : api.Fault)] }

noncomputable def mewslaw16.does (d : api.Disk) (o_ : mewslaw16.Op) : Option (api.Disk × Int × Int) :=
 (
  if o_.Kind = 0 then
   (disk.Write d o_.Name o_.S).bind fun r88 =>
   some (r88.2.1, r88.2.2, r88.1.Files, r88.1.Faults)
  else
   if o_.Kind = 1 then
    (disk.Sync d o_.Name).bind fun r91 =>
    some (0, r91.2, r91.1.Files, r91.1.Faults)
   else
    if o_.Kind = 2 then
     (disk.Rename d o_.Name o_.S).bind fun r94 =>
     some (0, r94.2, r94.1.Files, r94.1.Faults)
    else
     if o_.Kind = 3 then
      (disk.Remove d o_.Name).bind fun r97 =>
      some (0, 0, r97.Files, r97.Faults)
     else
      if o_.Kind = 4 then
       (disk.Cut d o_.Name o_.N).bind fun r100 =>
       some (0, r100.2, r100.1.Files, r100.1.Faults)
      else
       if o_.Kind = 5 then
        (disk.Crash d [({ Name := o_.Name, Bytes := o_.N } : api.Keep), ({ Name := o_.Name, Bytes := 1 } : api.Keep)]).bind fun r103 =>
        some (0, 0, r103.Files, r103.Faults)
       else
        (mewslaw16.faulty d o_).bind fun r105 =>
        some (0, 0, r105.Files, r105.Faults)).bind fun s85 =>
 some (({ Files := s85.2.2.1, Faults := s85.2.2.2 } : api.Disk), s85.1, s85.2.1)

noncomputable def mewslaw16.DiskApart (d : api.Disk) (o_ : mewslaw16.Op) (other : List UInt8) : Option Bool :=
 (
  (mewslaw16.Far d [o_]).bind fun r74 =>
  if r74 = true then
   some true
  else
   if 1000 < (other.length : Int) then
    some true
   else
    if o_.Kind = 5 then
     some true
    else
     if o_.Name = other then
      some true
     else
      if o_.Kind = 2 then
       some (decide (o_.S = other))
      else
       some false).bind fun s71 =>
 if s71 = true then
  (mewslaw16.alive).bind fun r80 =>
  some r80
 else
  (mewslaw16.does d o_).bind fun r81 =>
  (disk.Read d other).bind fun r83 =>
  (disk.Read r81.1 other).bind fun r84 =>
  (
   if r83.1 = r84.1 then
    if r83.2 = r84.2 then
     (disk.Safe d other).bind fun r94 =>
     (disk.Safe r81.1 other).bind fun r95 =>
     some (!decide (r94 = r95))
    else
     some true
   else
    some true).bind fun s89 =>
  if s89 = true then
   some false
  else
   if o_.Kind = 0 then
    (disk.Read d o_.Name).bind fun r96 =>
    (disk.Read r81.1 o_.Name).bind fun r97 =>
    (
     if r97.2 = 0 then
      if 0 ≤ r81.2.1 then
       if r81.2.1 ≤ (o_.S.length : Int) then
        need (InR 0 r81.2.1 o_.S.length) <|
        need (r96.1.length + (sub o_.S 0 r81.2.1).length ≤ 9223372036854775807) <|
        if r97.1 = (r96.1 ++ (sub o_.S 0 r81.2.1)) then
         (disk.Safe r81.1 o_.Name).bind fun r117 =>
         (disk.Safe d o_.Name).bind fun r118 =>
         if r117 = r118 then
          (mewslaw16.alive).bind fun r120 =>
          some r120
         else
          some false
        else
         some false
       else
        some false
      else
       some false
     else
      some false).bind fun s108 =>
    some s108
   else
    (mewslaw16.alive).bind fun r121 =>
    some r121

end Go.Pu
