/- Printed by lift.py: the functions over data. -/
import Derived.Test.YtlidepjlhmaldaaDPT
set_option maxRecDepth 100000
set_option maxHeartbeats 0
namespace Go.Pu
open Go.Lift

structure mewslaw16.Far.S0 where
 n : Int
 t13 : Int

noncomputable def mewslaw16.Far.body0 (d : api.Disk) (s138 : mewslaw16.Far.S0) : Option (mewslaw16.Far.S0 ⊕ (Int ⊕ Bool)) :=
 if s138.t13 < (d.Files.length : Int) then
  need (InB s138.t13 d.Files.length) <|
  letO (IntKind.wrap .i64 (s138.n + (IntKind.wrap .i64 ((if 10000 < ((ix d.Files s138.t13).Data.length : Int) then 10000 else ((ix d.Files s138.t13).Data.length : Int)) + (if 10000 < ((ix d.Files s138.t13).Name.length : Int) then 10000 else ((ix d.Files s138.t13).Name.length : Int)))))) fun x144 =>
  if 5000 < x144 then
   some (.inr (.inr true))
  else
   some (.inl ⟨x144, IntKind.wrap .i64 (s138.t13 + 1)⟩)
 else
  some (.inr (.inl s138.n))

noncomputable def mewslaw16.Far.loop0 (d : api.Disk) (s138 : mewslaw16.Far.S0) : Option (Int ⊕ Bool) := whileO (mewslaw16.Far.body0 d) s138

structure mewslaw16.Far.S2 where
 n : Int
 t33 : Int

noncomputable def mewslaw16.Far.body2 (l : List mewslaw16.Op) (s183 : mewslaw16.Far.S2) : Option (mewslaw16.Far.S2 ⊕ (Unit ⊕ Bool)) :=
 if s183.t33 < (l.length : Int) then
  need (InB s183.t33 l.length) <|
  letO (IntKind.wrap .i64 (s183.n + (IntKind.wrap .i64 ((if 10000 < ((ix l s183.t33).S.length : Int) then 10000 else ((ix l s183.t33).S.length : Int)) + (if 10000 < ((ix l s183.t33).Name.length : Int) then 10000 else ((ix l s183.t33).Name.length : Int)))))) fun x189 =>
  if 5000 < x189 then
   some (.inr (.inr true))
  else
   some (.inl ⟨x189, IntKind.wrap .i64 (s183.t33 + 1)⟩)
 else
  some (.inr (.inl ()))

noncomputable def mewslaw16.Far.loop2 (l : List mewslaw16.Op) (s183 : mewslaw16.Far.S2) : Option (Unit ⊕ Bool) := whileO (mewslaw16.Far.body2 l) s183

noncomputable def mewslaw16.Far (d : api.Disk) (l : List mewslaw16.Op) : Option Bool :=
 (mewslaw16.Far.loop0 d ⟨0, 0⟩).bind fun s200 => onSum s200 (fun s123 =>
  (mewslaw16.Far.loop2 l ⟨s123, 0⟩).bind fun s199 => onSum s199 (fun s168 =>
   letO (
    if 40 < (d.Files.length : Int) then
     true
    else
     if 100 < (d.Faults.length : Int) then
      true
     else
      decide (100 < (l.length : Int))) fun s194 =>
   some s194) fun s199x => some s199x) fun s200x => some s200x

noncomputable def slices.Clone_api_File (s : List api.File) : Option (List api.File) :=
 need ((([] : List api.File).length + s.length) * 40 ≤ 140737488355328) <|
 some s

noncomputable def slices.Clone_api_Fault (s : List api.Fault) : Option (List api.Fault) :=
 need ((([] : List api.Fault).length + s.length) * 32 ≤ 140737488355328) <|
 some s

noncomputable def disk.own (d : api.Disk) : Option api.Disk :=
 (slices.Clone_api_File d.Files).bind fun r9 =>
 (slices.Clone_api_Fault d.Faults).bind fun r11 =>
 some ({ Files := r9, Faults := r11 } : api.Disk)

noncomputable def disk.meets_1 (f : api.Fault) (a1_ : List UInt8) (a2_ : Int) : Option Bool :=
 letO (
  if f.Name = a1_ then
   decide (f.Kind = a2_)
  else
   false) fun s9 =>
 some s9

structure slices.IndexFunc_api_Fault_v_disk_meets_1.S0 where
 t8 : Int

noncomputable def slices.IndexFunc_api_Fault_v_disk_meets_1.body0 (s_ : List api.Fault) (b1_ : List UInt8) (b2_ : Int) (s83 : slices.IndexFunc_api_Fault_v_disk_meets_1.S0) : Option (slices.IndexFunc_api_Fault_v_disk_meets_1.S0 ⊕ (Unit ⊕ Int)) :=
 if s83.t8 < (s_.length : Int) then
  need (InB s83.t8 s_.length) <|
  need (InB s83.t8 s_.length) <|
  (disk.meets_1 (ix s_ s83.t8) b1_ b2_).bind fun r89 =>
  if r89 = true then
   some (.inr (.inr s83.t8))
  else
   some (.inl ⟨IntKind.wrap .i64 (s83.t8 + 1)⟩)
 else
  some (.inr (.inl ()))

noncomputable def slices.IndexFunc_api_Fault_v_disk_meets_1.loop0 (s_ : List api.Fault) (b1_ : List UInt8) (b2_ : Int) (s83 : slices.IndexFunc_api_Fault_v_disk_meets_1.S0) : Option (Unit ⊕ Int) := whileO (slices.IndexFunc_api_Fault_v_disk_meets_1.body0 s_ b1_ b2_) s83

noncomputable def slices.IndexFunc_api_Fault_v_disk_meets_1 (s_ : List api.Fault) (b1_ : List UInt8) (b2_ : Int) : Option Int :=
 (slices.IndexFunc_api_Fault_v_disk_meets_1.loop0 s_ b1_ b2_ ⟨0⟩).bind fun s92 => onSum s92 (fun s68 =>
  some (-1)) fun s92x => some s92x

noncomputable def slices.Delete_api_Fault_v (s_ : List api.Fault) (i : Int) (j : Int) : Option (List api.Fault) :=
 need (0 ≤ i ∧ i ≤ j ∧ j ≤ (s_.length : Int) ∧ (s_.length : Int) ≤ (s_.length : Int)) <|
 if i = j then
  some s_
 else
  need (InR 0 i s_.length) <|
  need (InR j (s_.length : Int) s_.length) <|
  need (0 ≤ i ∧ i ≤ j ∧ j ≤ (s_.length : Int) ∧ (s_.length : Int) = (s_.length : Int)) <|
  need ((0 : Int) ≤ 0 ∧ 0 ≤ (i + ((s_.length : Int) - j))) <|
  need (InP 0 (i + ((s_.length : Int) - j)) (mvL s_ (Int.toNat i) (Int.toNat j)).length) <|
  need (0 ≤ ((i + ((s_.length : Int) - j)) - 0) ∧ ((i + ((s_.length : Int) - j)) - 0) ≤ (s_.length : Int) ∧ 0 + (s_.length : Int) ≤ ((mvL s_ (Int.toNat i) (Int.toNat j)).length : Int)) <|
  need (InP (0 + ((i + ((s_.length : Int) - j)) - 0)) (0 + (s_.length : Int)) (mvL s_ (Int.toNat i) (Int.toNat j)).length) <|
  need (0 ≤ (i + ((s_.length : Int) - j)) ∧ (i + ((s_.length : Int) - j)) ≤ ((clrL (mvL s_ (Int.toNat i) (Int.toNat j)) (Int.toNat (0 + ((i + ((s_.length : Int) - j)) - 0))) (Int.toNat (0 + (s_.length : Int))) (({ Name := ([] : List UInt8), Kind := 0, Short := 0 } : api.Fault) : api.Fault)).length : Int)) <|
  some (List.take (Int.toNat (i + ((s_.length : Int) - j))) (clrL (mvL s_ (Int.toNat i) (Int.toNat j)) (Int.toNat (0 + ((i + ((s_.length : Int) - j)) - 0))) (Int.toNat (0 + (s_.length : Int))) (({ Name := ([] : List UInt8), Kind := 0, Short := 0 } : api.Fault) : api.Fault)))

noncomputable def disk.meets_v (name : List UInt8) (kind : Int) (d : api.Disk) : Option (api.Fault × Bool × api.Disk) :=
 (slices.IndexFunc_api_Fault_v_disk_meets_1 d.Faults name kind).bind fun r14 =>
 if r14 < 0 then
  some (({ Name := ([] : List UInt8), Kind := 0, Short := 0 } : api.Fault), false, d)
 else
  need (InB r14 d.Faults.length) <|
  need (InB r14 d.Faults.length) <|
  (slices.Delete_api_Fault_v d.Faults r14 (IntKind.wrap .i64 (r14 + 1))).bind fun r18 =>
  some ((ix d.Faults r14), true, { d with Faults := r18 })

noncomputable def disk.find_1 (f : api.File) (a1_ : List UInt8) : Option Bool :=
 some (decide (f.Name = a1_))

structure slices.IndexFunc_api_File_v_disk_find_1.S0 where
 t8 : Int

noncomputable def slices.IndexFunc_api_File_v_disk_find_1.body0 (s_ : List api.File) (b1_ : List UInt8) (s83 : slices.IndexFunc_api_File_v_disk_find_1.S0) : Option (slices.IndexFunc_api_File_v_disk_find_1.S0 ⊕ (Unit ⊕ Int)) :=
 if s83.t8 < (s_.length : Int) then
  need (InB s83.t8 s_.length) <|
  need (InB s83.t8 s_.length) <|
  (disk.find_1 (ix s_ s83.t8) b1_).bind fun r89 =>
  if r89 = true then
   some (.inr (.inr s83.t8))
  else
   some (.inl ⟨IntKind.wrap .i64 (s83.t8 + 1)⟩)
 else
  some (.inr (.inl ()))

noncomputable def slices.IndexFunc_api_File_v_disk_find_1.loop0 (s_ : List api.File) (b1_ : List UInt8) (s83 : slices.IndexFunc_api_File_v_disk_find_1.S0) : Option (Unit ⊕ Int) := whileO (slices.IndexFunc_api_File_v_disk_find_1.body0 s_ b1_) s83

noncomputable def slices.IndexFunc_api_File_v_disk_find_1 (s_ : List api.File) (b1_ : List UInt8) : Option Int :=
 (slices.IndexFunc_api_File_v_disk_find_1.loop0 s_ b1_ ⟨0⟩).bind fun s92 => onSum s92 (fun s68 =>
  some (-1)) fun s92x => some s92x

noncomputable def disk.find_v (d : api.Disk) (name : List UInt8) : Option Int :=
 (slices.IndexFunc_api_File_v_disk_find_1 d.Files name).bind fun r6 =>
 some r6

noncomputable def disk.safe (f : api.File) : Option Int :=
 some (if (f.Data.length : Int) < (if f.Synced < 0 then 0 else f.Synced) then (f.Data.length : Int) else (if f.Synced < 0 then 0 else f.Synced))

noncomputable def disk.Write (d : api.Disk) (name : List UInt8) (s_ : List UInt8) : Option (api.Disk × Int × Int) :=
 (disk.own d).bind fun r40 =>
 (
  (disk.meets_v name 1 r40).bind fun r52 =>
  if r52.2.1 = true then
   need (InR 0 (if (s_.length : Int) < (if r52.1.Short < 0 then 0 else r52.1.Short) then (s_.length : Int) else (if r52.1.Short < 0 then 0 else r52.1.Short)) s_.length) <|
   some (sub s_ 0 (if (s_.length : Int) < (if r52.1.Short < 0 then 0 else r52.1.Short) then (s_.length : Int) else (if r52.1.Short < 0 then 0 else r52.1.Short)), 15, r52.2.2.Faults)
  else
   some (s_, 0, r52.2.2.Faults)).bind fun s48 =>
 (disk.find_v { r40 with Faults := s48.2.2 } name).bind fun r57 =>
 (
  if r57 < 0 then
   need ((r40.Files.length + [({ Name := name, Data := ([] : List UInt8), Synced := 0 } : api.File)].length) * 40 ≤ 140737488355328) <|
   some ((r40.Files.length : Int), r40.Files ++ [({ Name := name, Data := ([] : List UInt8), Synced := 0 } : api.File)])
  else
   some (r57, r40.Files)).bind fun s61 =>
 need (InB s61.1 s61.2.length) <|
 need (InB s61.1 s61.2.length) <|
 (disk.safe (ix s61.2 s61.1)).bind fun r70 =>
 need (InB s61.1 s61.2.length) <|
 need (InB s61.1 (upd s61.2 s61.1 { (ix s61.2 s61.1) with Synced := r70 }).length) <|
 need ((ix (upd s61.2 s61.1 { (ix s61.2 s61.1) with Synced := r70 }) s61.1).Data.length + s48.1.length ≤ 9223372036854775807) <|
 need (InB s61.1 (upd s61.2 s61.1 { (ix s61.2 s61.1) with Synced := r70 }).length) <|
 some (({ Files := upd (upd s61.2 s61.1 { (ix s61.2 s61.1) with Synced := r70 }) s61.1 ({ Name := (ix (upd s61.2 s61.1 { (ix s61.2 s61.1) with Synced := r70 }) s61.1).Name, Data := (ix (upd s61.2 s61.1 { (ix s61.2 s61.1) with Synced := r70 }) s61.1).Data ++ s48.1, Synced := (ix (upd s61.2 s61.1 { (ix s61.2 s61.1) with Synced := r70 }) s61.1).Synced } : api.File), Faults := s48.2.2 } : api.Disk), (s48.1.length : Int), s48.2.1)

noncomputable def disk.Sync (d : api.Disk) (name : List UInt8) : Option (api.Disk × Int) :=
 (disk.own d).bind fun r18 =>
 (disk.find_v r18 name).bind fun r21 =>
 if r21 < 0 then
  some (r18, 8)
 else
  (disk.meets_v name 2 r18).bind fun r22 =>
  if r22.2.1 = true then
   some ({ r18 with Faults := r22.2.2.Faults }, 15)
  else
   need (InB r21 r18.Files.length) <|
   need (InB r21 r18.Files.length) <|
   need (InB r21 r18.Files.length) <|
   need (InB r21 r18.Files.length) <|
   some ({ r22.2.2 with Files := upd r18.Files r21 { (ix r18.Files r21) with Synced := ((ix r18.Files r21).Data.length : Int) } }, 0)

structure slices.IndexFunc_api_File_disk_find_1.S0 where
 t8 : Int

noncomputable def slices.IndexFunc_api_File_disk_find_1.body0 (s_ : List api.File) (b0_ : List UInt8) (s72 : slices.IndexFunc_api_File_disk_find_1.S0) : Option (slices.IndexFunc_api_File_disk_find_1.S0 ⊕ (Unit ⊕ Int)) :=
 if s72.t8 < (s_.length : Int) then
  need (InB s72.t8 s_.length) <|
  (disk.find_1 (ix s_ s72.t8) b0_).bind fun r77 =>
  if r77 = true then
   some (.inr (.inr s72.t8))
  else
   some (.inl ⟨IntKind.wrap .i64 (s72.t8 + 1)⟩)
 else
  some (.inr (.inl ()))

noncomputable def slices.IndexFunc_api_File_disk_find_1.loop0 (s_ : List api.File) (b0_ : List UInt8) (s72 : slices.IndexFunc_api_File_disk_find_1.S0) : Option (Unit ⊕ Int) := whileO (slices.IndexFunc_api_File_disk_find_1.body0 s_ b0_) s72

noncomputable def slices.IndexFunc_api_File_disk_find_1 (s_ : List api.File) (b0_ : List UInt8) : Option Int :=
 (slices.IndexFunc_api_File_disk_find_1.loop0 s_ b0_ ⟨0⟩).bind fun s80 => onSum s80 (fun s59 =>
  some (-1)) fun s80x => some s80x

noncomputable def disk.find (d : api.Disk) (name : List UInt8) : Option Int :=
 (slices.IndexFunc_api_File_disk_find_1 d.Files name).bind fun r6 =>
 some r6

noncomputable def disk.Crash_1 (k_ : api.Keep) (a1_ : api.File) : Option Bool :=
 some (decide (k_.Name = a1_.Name))

structure slices.IndexFunc_api_Keep_disk_Crash_1.S0 where
 t8 : Int

noncomputable def slices.IndexFunc_api_Keep_disk_Crash_1.body0 (s_ : List api.Keep) (b0_ : api.File) (s72 : slices.IndexFunc_api_Keep_disk_Crash_1.S0) : Option (slices.IndexFunc_api_Keep_disk_Crash_1.S0 ⊕ (Unit ⊕ Int)) :=
 if s72.t8 < (s_.length : Int) then
  need (InB s72.t8 s_.length) <|
  (disk.Crash_1 (ix s_ s72.t8) b0_).bind fun r77 =>
  if r77 = true then
   some (.inr (.inr s72.t8))
  else
   some (.inl ⟨IntKind.wrap .i64 (s72.t8 + 1)⟩)
 else
  some (.inr (.inl ()))

noncomputable def slices.IndexFunc_api_Keep_disk_Crash_1.loop0 (s_ : List api.Keep) (b0_ : api.File) (s72 : slices.IndexFunc_api_Keep_disk_Crash_1.S0) : Option (Unit ⊕ Int) := whileO (slices.IndexFunc_api_Keep_disk_Crash_1.body0 s_ b0_) s72

noncomputable def slices.IndexFunc_api_Keep_disk_Crash_1 (s_ : List api.Keep) (b0_ : api.File) : Option Int :=
 (slices.IndexFunc_api_Keep_disk_Crash_1.loop0 s_ b0_ ⟨0⟩).bind fun s80 => onSum s80 (fun s59 =>
  some (-1)) fun s80x => some s80x

structure disk.Crash.S0 where
 l : List api.File
 t13 : Int

noncomputable def disk.Crash.body0 (d : api.Disk) (keeps : List api.Keep) (s498 : disk.Crash.S0) : Option (disk.Crash.S0 ⊕ (List api.File)) :=
 if s498.t13 < (d.Files.length : Int) then
  (
   need (InB s498.t13 d.Files.length) <|
   (disk.find d (ix d.Files s498.t13).Name).bind fun r527 =>
   if r527 = s498.t13 then
    (disk.safe (ix d.Files s498.t13)).bind fun r528 =>
    (slices.IndexFunc_api_Keep_disk_Crash_1 keeps (ix d.Files s498.t13)).bind fun r529 =>
    (
     if 0 ≤ r529 then
      need (InB r529 keeps.length) <|
      letO (IntKind.wrap .i64 (r528 + (if (IntKind.wrap .i64 (((ix d.Files s498.t13).Data.length : Int) - r528)) < (if (ix keeps r529).Bytes < 0 then 0 else (ix keeps r529).Bytes) then (IntKind.wrap .i64 (((ix d.Files s498.t13).Data.length : Int) - r528)) else (if (ix keeps r529).Bytes < 0 then 0 else (ix keeps r529).Bytes)))) fun x537 =>
      some x537
     else
      some r528).bind fun s533 =>
    need (InR 0 s533 (ix d.Files s498.t13).Data.length) <|
    need ((s498.l.length + [({ Name := (ix d.Files s498.t13).Name, Data := sub (ix d.Files s498.t13).Data 0 s533, Synced := s533 } : api.File)].length) * 40 ≤ 140737488355328) <|
    some (s498.l ++ [({ Name := (ix d.Files s498.t13).Name, Data := sub (ix d.Files s498.t13).Data 0 s533, Synced := s533 } : api.File)])
   else
    some s498.l).bind fun s521 =>
  some (.inl ⟨s521, IntKind.wrap .i64 (s498.t13 + 1)⟩)
 else
  some (.inr s498.l)

noncomputable def disk.Crash.loop0 (d : api.Disk) (keeps : List api.Keep) (s498 : disk.Crash.S0) : Option (List api.File) := whileO (disk.Crash.body0 d keeps) s498

noncomputable def disk.Crash (d : api.Disk) (keeps : List api.Keep) : Option api.Disk :=
 (disk.Crash.loop0 d keeps ⟨([] : List api.File), 0⟩).bind fun s408 =>
 some ({ Files := s408, Faults := ([] : List api.Fault) } : api.Disk)

noncomputable def disk.Read (d : api.Disk) (name : List UInt8) : Option ((List UInt8) × Int) :=
 (disk.find d name).bind fun r6 =>
 if r6 < 0 then
  some (([] : List UInt8), 8)
 else
  need (InB r6 d.Files.length) <|
  some ((ix d.Files r6).Data, 0)

noncomputable def disk.Safe (d : api.Disk) (name : List UInt8) : Option (List UInt8) :=
 (disk.find d name).bind fun r9 =>
 if r9 < 0 then
  some ([] : List UInt8)
 else
  need (InB r9 d.Files.length) <|
  need (InB r9 d.Files.length) <|
  (disk.safe (ix d.Files r9)).bind fun r12 =>
  need (InR 0 r12 (ix d.Files r9).Data.length) <|
  some (sub (ix d.Files r9).Data 0 r12)

noncomputable def mewslaw16.alive  : Option Bool :=
 (disk.Write ({ Files := ([] : List api.File), Faults := ([] : List api.Fault) } : api.Disk) [102] [97]).bind fun r29 =>
 (disk.Sync r29.1 [102]).bind fun r33 =>
 (disk.Write r33.1 [102] [98, 99]).bind fun r36 =>
 (disk.Crash r36.1 [({ Name := [102], Bytes := 1 } : api.Keep)]).bind fun r39 =>
 (disk.Read r39 [102]).bind fun r41 =>
 (
  if r29.2.1 = 1 then
   if r29.2.2 = 0 then
    if r33.2 = 0 then
     if r41.1 = [97, 98] then
      if r41.2 = 0 then
       (disk.Safe r36.1 [102]).bind fun r56 =>
       some (decide (r56 = [97]))
      else
       some false
     else
      some false
    else
     some false
   else
    some false
  else
   some false).bind fun s48 =>
 some s48

structure disk.Rename.S0 where
 t40 : Int
 v : List api.File

noncomputable def disk.Rename.body0 (r239 : api.Disk) (r242 : Int) (to : List UInt8) (from_ : List UInt8) (s432 : disk.Rename.S0) : Option (disk.Rename.S0 ⊕ (List api.File)) :=
 if s432.t40 < (r239.Files.length : Int) then
  (
   need (InB s432.t40 r239.Files.length) <|
   need (InB s432.t40 r239.Files.length) <|
   if s432.t40 = r242 then
    need ((s432.v.length + [{ (ix r239.Files r242) with Name := to }].length) * 40 ≤ 140737488355328) <|
    some (s432.v ++ [{ (ix r239.Files r242) with Name := to }])
   else
    letO (
     if (ix r239.Files s432.t40).Name = to then
      false
     else
      (!decide ((ix r239.Files s432.t40).Name = from_))) fun s461 =>
    if s461 = true then
     need ((s432.v.length + [(ix r239.Files s432.t40)].length) * 40 ≤ 140737488355328) <|
     some (s432.v ++ [(ix r239.Files s432.t40)])
    else
     some s432.v).bind fun s451 =>
  some (.inl ⟨IntKind.wrap .i64 (s432.t40 + 1), s451⟩)
 else
  some (.inr s432.v)

noncomputable def disk.Rename.loop0 (r239 : api.Disk) (r242 : Int) (to : List UInt8) (from_ : List UInt8) (s432 : disk.Rename.S0) : Option (List api.File) := whileO (disk.Rename.body0 r239 r242 to from_) s432

noncomputable def disk.Rename (d : api.Disk) (from_ : List UInt8) (to : List UInt8) : Option (api.Disk × Int) :=
 (disk.own d).bind fun r239 =>
 (disk.find_v r239 from_).bind fun r242 =>
 if r242 < 0 then
  some (r239, 8)
 else
  (disk.meets_v from_ 3 r239).bind fun r243 =>
  if r243.2.1 = true then
   some ({ r239 with Faults := r243.2.2.Faults }, 15)
  else
   need (InB r242 r239.Files.length) <|
   need (InB r242 r239.Files.length) <|
   (disk.Rename.loop0 r239 r242 to from_ ⟨0, ([] : List api.File)⟩).bind fun s358 =>
   some ({ r243.2.2 with Files := s358 }, 0)

noncomputable def disk.Remove_1 (f : api.File) (a1_ : List UInt8) : Option Bool :=
 some (decide (f.Name = a1_))

structure slices.IndexFunc_api_File_v_disk_Remove_1.S0 where
 t8 : Int

noncomputable def slices.IndexFunc_api_File_v_disk_Remove_1.body0 (s_ : List api.File) (b1_ : List UInt8) (s83 : slices.IndexFunc_api_File_v_disk_Remove_1.S0) : Option (slices.IndexFunc_api_File_v_disk_Remove_1.S0 ⊕ (Unit ⊕ Int)) :=
 if s83.t8 < (s_.length : Int) then
  need (InB s83.t8 s_.length) <|
  need (InB s83.t8 s_.length) <|
  (disk.Remove_1 (ix s_ s83.t8) b1_).bind fun r89 =>
  if r89 = true then
   some (.inr (.inr s83.t8))
  else
   some (.inl ⟨IntKind.wrap .i64 (s83.t8 + 1)⟩)
 else
  some (.inr (.inl ()))

noncomputable def slices.IndexFunc_api_File_v_disk_Remove_1.loop0 (s_ : List api.File) (b1_ : List UInt8) (s83 : slices.IndexFunc_api_File_v_disk_Remove_1.S0) : Option (Unit ⊕ Int) := whileO (slices.IndexFunc_api_File_v_disk_Remove_1.body0 s_ b1_) s83

noncomputable def slices.IndexFunc_api_File_v_disk_Remove_1 (s_ : List api.File) (b1_ : List UInt8) : Option Int :=
 (slices.IndexFunc_api_File_v_disk_Remove_1.loop0 s_ b1_ ⟨0⟩).bind fun s92 => onSum s92 (fun s68 =>
  some (-1)) fun s92x => some s92x

structure slices.DeleteFunc_api_File_v_disk_Remove_1.S0 where
 i : Int
 j : Int
 v : List api.File

noncomputable def slices.DeleteFunc_api_File_v_disk_Remove_1.body0 (b1_ : List UInt8) (s231 : slices.DeleteFunc_api_File_v_disk_Remove_1.S0) : Option (slices.DeleteFunc_api_File_v_disk_Remove_1.S0 ⊕ (Int × (List api.File))) :=
 if s231.j < (s231.v.length : Int) then
  (
   need (InB s231.j s231.v.length) <|
   need (InB s231.j s231.v.length) <|
   (disk.Remove_1 (ix s231.v s231.j) b1_).bind fun r248 =>
   if (!r248) = true then
    need (InB s231.i s231.v.length) <|
    need (InB s231.i s231.v.length) <|
    some (IntKind.wrap .i64 (s231.i + 1), upd s231.v s231.i (ix s231.v s231.j))
   else
    some (s231.i, s231.v)).bind fun s242 =>
  some (.inl ⟨s242.1, IntKind.wrap .i64 (s231.j + 1), s242.2⟩)
 else
  some (.inr (s231.i, s231.v))

noncomputable def slices.DeleteFunc_api_File_v_disk_Remove_1.loop0 (b1_ : List UInt8) (s231 : slices.DeleteFunc_api_File_v_disk_Remove_1.S0) : Option (Int × (List api.File)) := whileO (slices.DeleteFunc_api_File_v_disk_Remove_1.body0 b1_) s231

noncomputable def slices.DeleteFunc_api_File_v_disk_Remove_1 (s_ : List api.File) (b1_ : List UInt8) : Option (List api.File) :=
 (slices.IndexFunc_api_File_v_disk_Remove_1 s_ b1_).bind fun r129 =>
 if r129 = (-1) then
  some s_
 else
  (slices.DeleteFunc_api_File_v_disk_Remove_1.loop0 b1_ ⟨r129, IntKind.wrap .i64 (r129 + 1), s_⟩).bind fun s190 =>
  need (InR s190.1 (s190.2.length : Int) s190.2.length) <|
  need (InP s190.1 (s190.2.length : Int) s190.2.length) <|
  need (InR 0 s190.1 (clrL s190.2 (Int.toNat s190.1) (Int.toNat (s190.2.length : Int)) (({ Name := ([] : List UInt8), Data := ([] : List UInt8), Synced := 0 } : api.File) : api.File)).length) <|
  need (0 ≤ s190.1 ∧ s190.1 ≤ ((clrL s190.2 (Int.toNat s190.1) (Int.toNat (s190.2.length : Int)) (({ Name := ([] : List UInt8), Data := ([] : List UInt8), Synced := 0 } : api.File) : api.File)).length : Int)) <|
  some (List.take (Int.toNat s190.1) (clrL s190.2 (Int.toNat s190.1) (Int.toNat (s190.2.length : Int)) (({ Name := ([] : List UInt8), Data := ([] : List UInt8), Synced := 0 } : api.File) : api.File)))

noncomputable def disk.Remove (d : api.Disk) (name : List UInt8) : Option api.Disk :=
 (disk.own d).bind fun r12 =>
 (slices.DeleteFunc_api_File_v_disk_Remove_1 r12.Files name).bind fun r15 =>
 some { r12 with Files := r15 }

noncomputable def disk.Cut (d : api.Disk) (name : List UInt8) (n_ : Int) : Option (api.Disk × Int) :=
 (disk.own d).bind fun r18 =>
 (disk.find_v r18 name).bind fun r21 =>
 if r21 < 0 then
  some (r18, 8)
 else
  need (InB r21 r18.Files.length) <|
  need (InB r21 r18.Files.length) <|
  need (InB r21 r18.Files.length) <|
  need (InR 0 (if ((ix r18.Files r21).Data.length : Int) < (if n_ < 0 then 0 else n_) then ((ix r18.Files r21).Data.length : Int) else (if n_ < 0 then 0 else n_)) (ix r18.Files r21).Data.length) <|
  need (InB r21 r18.Files.length) <|
  need (InB r21 (upd r18.Files r21 { (ix r18.Files r21) with Data := sub (ix r18.Files r21).Data 0 (if ((ix r18.Files r21).Data.length : Int) < (if n_ < 0 then 0 else n_) then ((ix r18.Files r21).Data.length : Int) else (if n_ < 0 then 0 else n_)) }).length) <|
  (disk.safe ({ Name := (ix (upd r18.Files r21 { (ix r18.Files r21) with Data := sub (ix r18.Files r21).Data 0 (if ((ix r18.Files r21).Data.length : Int) < (if n_ < 0 then 0 else n_) then ((ix r18.Files r21).Data.length : Int) else (if n_ < 0 then 0 else n_)) }) r21).Name, Data := (ix (upd r18.Files r21 { (ix r18.Files r21) with Data := sub (ix r18.Files r21).Data 0 (if ((ix r18.Files r21).Data.length : Int) < (if n_ < 0 then 0 else n_) then ((ix r18.Files r21).Data.length : Int) else (if n_ < 0 then 0 else n_)) }) r21).Data, Synced := (ix (upd r18.Files r21 { (ix r18.Files r21) with Data := sub (ix r18.Files r21).Data 0 (if ((ix r18.Files r21).Data.length : Int) < (if n_ < 0 then 0 else n_) then ((ix r18.Files r21).Data.length : Int) else (if n_ < 0 then 0 else n_)) }) r21).Synced } : api.File)).bind fun r28 =>
  need (InB r21 (upd r18.Files r21 { (ix r18.Files r21) with Data := sub (ix r18.Files r21).Data 0 (if ((ix r18.Files r21).Data.length : Int) < (if n_ < 0 then 0 else n_) then ((ix r18.Files r21).Data.length : Int) else (if n_ < 0 then 0 else n_)) }).length) <|
  some ({ r18 with Files := upd (upd r18.Files r21 { (ix r18.Files r21) with Data := sub (ix r18.Files r21).Data 0 (if ((ix r18.Files r21).Data.length : Int) < (if n_ < 0 then 0 else n_) then ((ix r18.Files r21).Data.length : Int) else (if n_ < 0 then 0 else n_)) }) r21 ({ Name := (ix (upd r18.Files r21 { (ix r18.Files r21) with Data := sub (ix r18.Files r21).Data 0 (if ((ix r18.Files r21).Data.length : Int) < (if n_ < 0 then 0 else n_) then ((ix r18.Files r21).Data.length : Int) else (if n_ < 0 then 0 else n_)) }) r21).Name, Data := (ix (upd r18.Files r21 { (ix r18.Files r21) with Data := sub (ix r18.Files r21).Data 0 (if ((ix r18.Files r21).Data.length : Int) < (if n_ < 0 then 0 else n_) then ((ix r18.Files r21).Data.length : Int) else (if n_ < 0 then 0 else n_)) }) r21).Data, Synced := r28 } : api.File) }, 0)

noncomputable def mewslaw16.faulty (d : api.Disk) (o_ : mewslaw16.Op) : Option api.Disk :=
 need ((([] : List api.Fault).length + d.Faults.length) * 32 ≤ 140737488355328) <|
 need (((([] : List api.Fault) ++ d.Faults).length + [({ Name := o_.Name, Kind := IntKind.wrap .i64 (o_.Kind - 5), Short := o_.N } : api.Fault)].length) * 32 ≤ 140737488355328) <|
 some { d with Faults := (([] : List api.Fault) ++ d.Faults) ++ [({ Name := o_.Name, Kind := IntKind.wrap .i64 (o_.Kind - 5), Short := o_.N } : api.Fault)] }

noncomputable def mewslaw16.does (d : api.Disk) (o_ : mewslaw16.Op) : Option (api.Disk × Int × Int) :=
 (
  if o_.Kind = 0 then
   (disk.Write d o_.Name o_.S).bind fun r88 =>
   some (r88.2.1, r88.2.2, r88.1.Files, r88.1.Faults)
  else
   if o_.Kind = 1 then
    (disk.Sync d o_.Name).bind fun r91 =>
    some (0, r91.2, r91.1.Files, r91.1.Faults)
   else
    if o_.Kind = 2 then
     (disk.Rename d o_.Name o_.S).bind fun r94 =>
     some (0, r94.2, r94.1.Files, r94.1.Faults)
    else
     if o_.Kind = 3 then
      (disk.Remove d o_.Name).bind fun r97 =>
      some (0, 0, r97.Files, r97.Faults)
     else
      if o_.Kind = 4 then
       (disk.Cut d o_.Name o_.N).bind fun r100 =>
       some (0, r100.2, r100.1.Files, r100.1.Faults)
      else
       if o_.Kind = 5 then
        (disk.Crash d [({ Name := o_.Name, Bytes := o_.N } : api.Keep), ({ Name := o_.Name, Bytes := 1 } : api.Keep)]).bind fun r103 =>
        some (0, 0, r103.Files, r103.Faults)
       else
        (mewslaw16.faulty d o_).bind fun r105 =>
        some (0, 0, r105.Files, r105.Faults)).bind fun s85 =>
 some (({ Files := s85.2.2.1, Faults := s85.2.2.2 } : api.Disk), s85.1, s85.2.1)

noncomputable def mewslaw16.DiskApart (d : api.Disk) (o_ : mewslaw16.Op) (other : List UInt8) : Option Bool :=
 (
  (mewslaw16.Far d [o_]).bind fun r74 =>
  if r74 = true then
   some true
  else
   if 1000 < (other.length : Int) then
    some true
   else
    if o_.Kind = 5 then
     some true
    else
     if o_.Name = other then
      some true
     else
      if o_.Kind = 2 then
       some (decide (o_.S = other))
      else
       some false).bind fun s71 =>
 if s71 = true then
  (mewslaw16.alive).bind fun r80 =>
  some r80
 else
  (mewslaw16.does d o_).bind fun r81 =>
  (disk.Read d other).bind fun r83 =>
  (disk.Read r81.1 other).bind fun r84 =>
  (
   if r83.1 = r84.1 then
    if r83.2 = r84.2 then
     (disk.Safe d other).bind fun r94 =>
     (disk.Safe r81.1 other).bind fun r95 =>
     some (!decide (r94 = r95))
    else
     some true
   else
    some true).bind fun s89 =>
  if s89 = true then
   some false
  else
   if o_.Kind = 0 then
    (disk.Read d o_.Name).bind fun r96 =>
    (disk.Read r81.1 o_.Name).bind fun r97 =>
    (
     if r97.2 = 0 then
      if 0 ≤ r81.2.1 then
       if r81.2.1 ≤ (o_.S.length : Int) then
        need (InR 0 r81.2.1 o_.S.length) <|
        need (r96.1.length + (sub o_.S 0 r81.2.1).length ≤ 9223372036854775807) <|
        if r97.1 = (r96.1 ++ (sub o_.S 0 r81.2.1)) then
         (disk.Safe r81.1 o_.Name).bind fun r117 =>
         (disk.Safe d o_.Name).bind fun r118 =>
         if r117 = r118 then
          (mewslaw16.alive).bind fun r120 =>
          some r120
         else
          some false
        else
         some false
       else
        some false
      else
       some false
     else
      some false).bind fun s108 =>
    some s108
   else
    (mewslaw16.alive).bind fun r121 =>
    some r121

noncomputable def slices.Sort_string (x : List (List UInt8)) : Option (List (List UInt8)) :=
 need (x.length < 4611686018427387904) <|
 some (x.mergeSort fun a b => decide (a ≤ b))

noncomputable def slices.Compact_string (x : List (List UInt8)) : Option (List (List UInt8)) :=
 need (x.length < 4611686018427387904) <|
 some (Go.Lib.compact x)

structure disk.Names.S0 where
 t9 : Int
 v : List (List UInt8)

noncomputable def disk.Names.body0 (d : api.Disk) (s99 : disk.Names.S0) : Option (disk.Names.S0 ⊕ (List (List UInt8))) :=
 if s99.t9 < (d.Files.length : Int) then
  need (InB s99.t9 d.Files.length) <|
  need ((s99.v.length + [(ix d.Files s99.t9).Name].length) * 16 ≤ 140737488355328) <|
  some (.inl ⟨IntKind.wrap .i64 (s99.t9 + 1), s99.v ++ [(ix d.Files s99.t9).Name]⟩)
 else
  some (.inr s99.v)

noncomputable def disk.Names.loop0 (d : api.Disk) (s99 : disk.Names.S0) : Option (List (List UInt8)) := whileO (disk.Names.body0 d) s99

noncomputable def disk.Names (d : api.Disk) : Option (List (List UInt8)) :=
 (disk.Names.loop0 d ⟨0, ([] : List (List UInt8))⟩).bind fun s82 =>
 (slices.Sort_string s82).bind fun r110 =>
 (slices.Compact_string r110).bind fun r111 =>
 some r111

structure mewsref02.Same.S0 where
 i : Int

noncomputable def mewsref02.Same.body0 (a : List (List UInt8)) (b : List (List UInt8)) (s73 : mewsref02.Same.S0) : Option (mewsref02.Same.S0 ⊕ (Unit ⊕ Bool)) :=
 if s73.i < (a.length : Int) then
  need (InB s73.i a.length) <|
  need (InB s73.i b.length) <|
  if (ix a s73.i) = (ix b s73.i) then
   some (.inl ⟨IntKind.wrap .i64 (s73.i + 1)⟩)
  else
   some (.inr (.inr false))
 else
  some (.inr (.inl ()))

noncomputable def mewsref02.Same.loop0 (a : List (List UInt8)) (b : List (List UInt8)) (s73 : mewsref02.Same.S0) : Option (Unit ⊕ Bool) := whileO (mewsref02.Same.body0 a b) s73

noncomputable def mewsref02.Same (a : List (List UInt8)) (b : List (List UInt8)) : Option Bool :=
 if (a.length : Int) = (b.length : Int) then
  (mewsref02.Same.loop0 a b ⟨0⟩).bind fun s81 => onSum s81 (fun s60 =>
   some true) fun s81x => some s81x
 else
  some false

noncomputable def slices.SortFunc_api_File (x : List api.File) : Option (List api.File) :=
 need (x.length < 4611686018427387904 ∧ (x.map fun y => y.Name).Nodup) <|
 some (x.mergeSort fun a b => !strLt b.Name a.Name)

structure disk.counting.S0 where
 t9 : Int
 v : List api.File

noncomputable def disk.counting.body0 (d : api.Disk) (s255 : disk.counting.S0) : Option (disk.counting.S0 ⊕ (List api.File)) :=
 if s255.t9 < (d.Files.length : Int) then
  (
   need (InB s255.t9 d.Files.length) <|
   (disk.find d (ix d.Files s255.t9).Name).bind fun r273 =>
   if r273 = s255.t9 then
    (disk.safe (ix d.Files s255.t9)).bind fun r274 =>
    need ((s255.v.length + [{ (ix d.Files s255.t9) with Synced := r274 }].length) * 40 ≤ 140737488355328) <|
    some (s255.v ++ [{ (ix d.Files s255.t9) with Synced := r274 }])
   else
    some s255.v).bind fun s267 =>
  some (.inl ⟨IntKind.wrap .i64 (s255.t9 + 1), s267⟩)
 else
  some (.inr s255.v)

noncomputable def disk.counting.loop0 (d : api.Disk) (s255 : disk.counting.S0) : Option (List api.File) := whileO (disk.counting.body0 d) s255

noncomputable def disk.counting (d : api.Disk) : Option (List api.File) :=
 (disk.counting.loop0 d ⟨0, ([] : List api.File)⟩).bind fun s209 =>
 (slices.SortFunc_api_File s209).bind fun r280 =>
 some r280

structure slices.Equal_api_File.S0 where
 t13 : Int

noncomputable def slices.Equal_api_File.body0 (s1_ : List api.File) (s2_ : List api.File) (s73 : slices.Equal_api_File.S0) : Option (slices.Equal_api_File.S0 ⊕ (Unit ⊕ Bool)) :=
 if s73.t13 < (s1_.length : Int) then
  need (InB s73.t13 s1_.length) <|
  need (InB s73.t13 s2_.length) <|
  if (ix s1_ s73.t13) = (ix s2_ s73.t13) then
   some (.inl ⟨IntKind.wrap .i64 (s73.t13 + 1)⟩)
  else
   some (.inr (.inr false))
 else
  some (.inr (.inl ()))

noncomputable def slices.Equal_api_File.loop0 (s1_ : List api.File) (s2_ : List api.File) (s73 : slices.Equal_api_File.S0) : Option (Unit ⊕ Bool) := whileO (slices.Equal_api_File.body0 s1_ s2_) s73

noncomputable def slices.Equal_api_File (s1_ : List api.File) (s2_ : List api.File) : Option Bool :=
 if (s1_.length : Int) = (s2_.length : Int) then
  (slices.Equal_api_File.loop0 s1_ s2_ ⟨0⟩).bind fun s81 => onSum s81 (fun s60 =>
   some true) fun s81x => some s81x
 else
  some false

structure slices.Equal_api_Fault.S0 where
 t13 : Int

noncomputable def slices.Equal_api_Fault.body0 (s1_ : List api.Fault) (s2_ : List api.Fault) (s73 : slices.Equal_api_Fault.S0) : Option (slices.Equal_api_Fault.S0 ⊕ (Unit ⊕ Bool)) :=
 if s73.t13 < (s1_.length : Int) then
  need (InB s73.t13 s1_.length) <|
  need (InB s73.t13 s2_.length) <|
  if (ix s1_ s73.t13) = (ix s2_ s73.t13) then
   some (.inl ⟨IntKind.wrap .i64 (s73.t13 + 1)⟩)
  else
   some (.inr (.inr false))
 else
  some (.inr (.inl ()))

noncomputable def slices.Equal_api_Fault.loop0 (s1_ : List api.Fault) (s2_ : List api.Fault) (s73 : slices.Equal_api_Fault.S0) : Option (Unit ⊕ Bool) := whileO (slices.Equal_api_Fault.body0 s1_ s2_) s73

noncomputable def slices.Equal_api_Fault (s1_ : List api.Fault) (s2_ : List api.Fault) : Option Bool :=
 if (s1_.length : Int) = (s2_.length : Int) then
  (slices.Equal_api_Fault.loop0 s1_ s2_ ⟨0⟩).bind fun s81 => onSum s81 (fun s60 =>
   some true) fun s81x => some s81x
 else
  some false

noncomputable def disk.Same (a : api.Disk) (b : api.Disk) : Option Bool :=
 (
  (disk.counting a).bind fun r26 =>
  (disk.counting b).bind fun r27 =>
  (slices.Equal_api_File r26 r27).bind fun r28 =>
  if r28 = true then
   (slices.Equal_api_Fault a.Faults b.Faults).bind fun r30 =>
   some r30
  else
   some false).bind fun s23 =>
 some s23

structure mewslaw16.DiskSafe.S0 where
 t46 : Int

noncomputable def mewslaw16.DiskSafe.body0 (r315 : List (List UInt8)) (d : api.Disk) (r210 : api.Disk) (s368 : mewslaw16.DiskSafe.S0) : Option (mewslaw16.DiskSafe.S0 ⊕ (Unit ⊕ Bool)) :=
 if s368.t46 < (r315.length : Int) then
  need (InB s368.t46 r315.length) <|
  (disk.Read d (ix r315 s368.t46)).bind fun r373 =>
  (disk.Read r210 (ix r315 s368.t46)).bind fun r374 =>
  (disk.Safe d (ix r315 s368.t46)).bind fun r375 =>
  (
   if r374.2 = 0 then
    if (r373.1.length : Int) < (r374.1.length : Int) then
     some true
    else
     need (InR 0 (r374.1.length : Int) r373.1.length) <|
     if (sub r373.1 0 (r374.1.length : Int)) = r374.1 then
      if (r374.1.length : Int) < (r375.length : Int) then
       some true
      else
       need (InR 0 (r375.length : Int) r374.1.length) <|
       if (sub r374.1 0 (r375.length : Int)) = r375 then
        (disk.Safe r210 (ix r315 s368.t46)).bind fun r394 =>
        some (!decide (r394 = r374.1))
       else
        some true
     else
      some true
   else
    some true).bind fun s384 =>
  if s384 = true then
   some (.inr (.inr false))
  else
   some (.inl ⟨IntKind.wrap .i64 (s368.t46 + 1)⟩)
 else
  some (.inr (.inl ()))

noncomputable def mewslaw16.DiskSafe.loop0 (r315 : List (List UInt8)) (d : api.Disk) (r210 : api.Disk) (s368 : mewslaw16.DiskSafe.S0) : Option (Unit ⊕ Bool) := whileO (mewslaw16.DiskSafe.body0 r315 d r210) s368

noncomputable def mewslaw16.DiskSafe (d : api.Disk) (keeps : List api.Keep) : Option Bool :=
 (
  (mewslaw16.Far d ([] : List mewslaw16.Op)).bind fun r207 =>
  if r207 = true then
   some true
  else
   some (decide (100 < (keeps.length : Int)))).bind fun s204 =>
 if s204 = true then
  (mewslaw16.alive).bind fun r209 =>
  some r209
 else
  (disk.Crash d keeps).bind fun r210 =>
  (
   (disk.Names r210).bind fun r223 =>
   (disk.Names d).bind fun r224 =>
   (mewsref02.Same r223 r224).bind fun r225 =>
   if (!r225) = true then
    some true
   else
    if 0 < (r210.Faults.length : Int) then
     some true
    else
     (disk.Crash r210 ([] : List api.Keep)).bind fun r228 =>
     (disk.Same r228 r210).bind fun r229 =>
     some (!r229)).bind fun s220 =>
  if s220 = true then
   some false
  else
   (
    (disk.Names d).bind fun r315 =>
    mewslaw16.DiskSafe.loop0 r315 d r210 ⟨0⟩).bind fun s398 => onSum s398 (fun s312 =>
    (mewslaw16.alive).bind fun r397 =>
    some r397) fun s398x => some s398x

structure mewsref16.Meets.S0 where
 is : Bool
 i : Int
 c : List api.Fault
 c2 : List UInt8
 c3 : Int
 c4 : Int

noncomputable def mewsref16.Meets.body0 (d : api.Disk) (name : List UInt8) (kind : Int) (s360 : mewsref16.Meets.S0) : Option (mewsref16.Meets.S0 ⊕ (Bool × (List api.Fault) × (List UInt8) × Int × Int)) :=
 if s360.i < (d.Faults.length : Int) then
  (
   need (InB s360.i d.Faults.length) <|
   letO (
    if (!s360.is) = true then
     if (ix d.Faults s360.i).Name = name then
      decide ((ix d.Faults s360.i).Kind = kind)
     else
      false
    else
     false) fun s385 =>
   if s385 = true then
    some (true, s360.c, (ix d.Faults s360.i).Name, (ix d.Faults s360.i).Kind, (ix d.Faults s360.i).Short)
   else
    need ((s360.c.length + [(ix d.Faults s360.i)].length) * 32 ≤ 140737488355328) <|
    some (s360.is, s360.c ++ [(ix d.Faults s360.i)], s360.c2, s360.c3, s360.c4)).bind fun s377 =>
  some (.inl ⟨s377.1, IntKind.wrap .i64 (s360.i + 1), s377.2.1, s377.2.2.1, s377.2.2.2.1, s377.2.2.2.2⟩)
 else
  some (.inr (s360.is, s360.c, s360.c2, s360.c3, s360.c4))

noncomputable def mewsref16.Meets.loop0 (d : api.Disk) (name : List UInt8) (kind : Int) (s360 : mewsref16.Meets.S0) : Option (Bool × (List api.Fault) × (List UInt8) × Int × Int) := whileO (mewsref16.Meets.body0 d name kind) s360

noncomputable def mewsref16.Meets (d : api.Disk) (name : List UInt8) (kind : Int) : Option (api.Disk × api.Fault × Bool) :=
 (mewsref16.Meets.loop0 d name kind ⟨false, 0, ([] : List api.Fault), ([] : List UInt8), 0, 0⟩).bind fun s297 =>
 some ({ d with Faults := s297.2.1 }, ({ Name := s297.2.2.1, Kind := s297.2.2.2.1, Short := s297.2.2.2.2 } : api.Fault), s297.1)

noncomputable def mewsref16.between (n_ : Int) (most : Int) : Option Int :=
 if n_ < 0 then
  some 0
 else
  if most < n_ then
   some most
  else
   some n_

structure mewsref16.Find.S0 where
 i : Int

noncomputable def mewsref16.Find.body0 (d : api.Disk) (name : List UInt8) (s87 : mewsref16.Find.S0) : Option (mewsref16.Find.S0 ⊕ (Unit ⊕ (api.File × Bool))) :=
 if s87.i < (d.Files.length : Int) then
  need (InB s87.i d.Files.length) <|
  if (ix d.Files s87.i).Name = name then
   (mewsref16.between (ix d.Files s87.i).Synced ((ix d.Files s87.i).Data.length : Int)).bind fun r93 =>
   some (.inr (.inr ({ (ix d.Files s87.i) with Synced := r93 }, true)))
  else
   some (.inl ⟨IntKind.wrap .i64 (s87.i + 1)⟩)
 else
  some (.inr (.inl ()))

noncomputable def mewsref16.Find.loop0 (d : api.Disk) (name : List UInt8) (s87 : mewsref16.Find.S0) : Option (Unit ⊕ (api.File × Bool)) := whileO (mewsref16.Find.body0 d name) s87

noncomputable def mewsref16.Find (d : api.Disk) (name : List UInt8) : Option (api.File × Bool) :=
 (mewsref16.Find.loop0 d name ⟨0⟩).bind fun s96 => onSum s96 (fun s72 =>
  some (({ Name := ([] : List UInt8), Data := ([] : List UInt8), Synced := 0 } : api.File), false)) fun s96x => some s96x

structure mewsref16.Files.S0 where
 out : List api.File
 i : Int

structure mewsref16.Files.S2 where
 met : Bool
 k : Int

noncomputable def mewsref16.Files.body2 (s1794 : mewsref16.Files.S0) (d : api.Disk) (s1937 : mewsref16.Files.S2) : Option (mewsref16.Files.S2 ⊕ Bool) :=
 if s1937.k < s1794.i then
  (
   if s1937.met = true then
    some true
   else
    need (InB s1937.k d.Files.length) <|
    need (InB s1794.i d.Files.length) <|
    some (decide ((ix d.Files s1937.k).Name = (ix d.Files s1794.i).Name))).bind fun s1944 =>
  some (.inl ⟨s1944, IntKind.wrap .i64 (s1937.k + 1)⟩)
 else
  some (.inr s1937.met)

noncomputable def mewsref16.Files.loop2 (s1794 : mewsref16.Files.S0) (d : api.Disk) (s1937 : mewsref16.Files.S2) : Option Bool := whileO (mewsref16.Files.body2 s1794 d) s1937

noncomputable def mewsref16.Files.body0 (d : api.Disk) (s1794 : mewsref16.Files.S0) : Option (mewsref16.Files.S0 ⊕ (List api.File)) :=
 if s1794.i < (d.Files.length : Int) then
  (
   (mewsref16.Files.loop2 s1794 d ⟨false, 0⟩).bind fun s1914 =>
   if (!s1914) = true then
    need (InB s1794.i d.Files.length) <|
    (mewsref16.Find d (ix d.Files s1794.i).Name).bind fun r1952 =>
    need ((s1794.out.length + [r1952.1].length) * 40 ≤ 140737488355328) <|
    some (s1794.out ++ [r1952.1])
   else
    some s1794.out).bind fun s1876 =>
  some (.inl ⟨s1876, IntKind.wrap .i64 (s1794.i + 1)⟩)
 else
  some (.inr s1794.out)

noncomputable def mewsref16.Files.loop0 (d : api.Disk) (s1794 : mewsref16.Files.S0) : Option (List api.File) := whileO (mewsref16.Files.body0 d) s1794

noncomputable def mewsref16.Files (d : api.Disk) : Option (List api.File) :=
 (mewsref16.Files.loop0 d ⟨([] : List api.File), 0⟩).bind fun s1468 =>
 some s1468

structure mewsref16.with_.S0 where
 met : Bool
 i : Int
 c : List api.File

noncomputable def mewsref16.with_.body0 (r157 : List api.File) (f : api.File) (s270 : mewsref16.with_.S0) : Option (mewsref16.with_.S0 ⊕ (Bool × (List api.File))) :=
 if s270.i < (r157.length : Int) then
  (
   need (InB s270.i r157.length) <|
   if (ix r157 s270.i).Name = f.Name then
    need ((s270.c.length + [f].length) * 40 ≤ 140737488355328) <|
    some (true, s270.c ++ [f])
   else
    need (InB s270.i r157.length) <|
    need ((s270.c.length + [(ix r157 s270.i)].length) * 40 ≤ 140737488355328) <|
    some (s270.met, s270.c ++ [(ix r157 s270.i)])).bind fun s282 =>
  some (.inl ⟨s282.1, IntKind.wrap .i64 (s270.i + 1), s282.2⟩)
 else
  some (.inr (s270.met, s270.c))

noncomputable def mewsref16.with_.loop0 (r157 : List api.File) (f : api.File) (s270 : mewsref16.with_.S0) : Option (Bool × (List api.File)) := whileO (mewsref16.with_.body0 r157 f) s270

noncomputable def mewsref16.with_ (d : api.Disk) (f : api.File) : Option api.Disk :=
 (mewsref16.Files d).bind fun r157 =>
 (mewsref16.with_.loop0 r157 f ⟨false, 0, ([] : List api.File)⟩).bind fun s225 =>
 (
  if (!s225.1) = true then
   need ((s225.2.length + [f].length) * 40 ≤ 140737488355328) <|
   some (s225.2 ++ [f])
  else
   some s225.2).bind fun s298 =>
 some { d with Files := s298 }

noncomputable def mewsref16.Write (d : api.Disk) (name : List UInt8) (s_ : List UInt8) : Option (api.Disk × Int × Int) :=
 (mewsref16.Meets d name 1).bind fun r22 =>
 (
  if r22.2.2 = true then
   (mewsref16.between r22.2.1.Short (s_.length : Int)).bind fun r31 =>
   need (InR 0 r31 s_.length) <|
   some (sub s_ 0 r31, 15)
  else
   some (s_, 0)).bind fun s28 =>
 (mewsref16.Find r22.1 name).bind fun r34 =>
 need (r34.1.Data.length + s28.1.length ≤ 9223372036854775807) <|
 (mewsref16.with_ r22.1 ({ Name := name, Data := r34.1.Data ++ s28.1, Synced := r34.1.Synced } : api.File)).bind fun r37 =>
 some (r37, (s28.1.length : Int), s28.2)

noncomputable def mewsref16.Sync (d : api.Disk) (name : List UInt8) : Option (api.Disk × Int) :=
 (mewsref16.Find d name).bind fun r14 =>
 if (!r14.2) = true then
  some (d, 8)
 else
  (mewsref16.Meets d name 2).bind fun r16 =>
  if r16.2.2 = true then
   some (r16.1, 15)
  else
   (mewsref16.with_ r16.1 { r14.1 with Synced := (r14.1.Data.length : Int) }).bind fun r19 =>
   some (r19, 0)

structure mewsref16.Remove.S0 where
 i : Int
 c : List api.File

noncomputable def mewsref16.Remove.body0 (r123 : List api.File) (name : List UInt8) (s218 : mewsref16.Remove.S0) : Option (mewsref16.Remove.S0 ⊕ (List api.File)) :=
 if s218.i < (r123.length : Int) then
  (
   need (InB s218.i r123.length) <|
   if (ix r123 s218.i).Name = name then
    some s218.c
   else
    need (InB s218.i r123.length) <|
    need ((s218.c.length + [(ix r123 s218.i)].length) * 40 ≤ 140737488355328) <|
    some (s218.c ++ [(ix r123 s218.i)])).bind fun s228 =>
  some (.inl ⟨IntKind.wrap .i64 (s218.i + 1), s228⟩)
 else
  some (.inr s218.c)

noncomputable def mewsref16.Remove.loop0 (r123 : List api.File) (name : List UInt8) (s218 : mewsref16.Remove.S0) : Option (List api.File) := whileO (mewsref16.Remove.body0 r123 name) s218

noncomputable def mewsref16.Remove (d : api.Disk) (name : List UInt8) : Option api.Disk :=
 (mewsref16.Files d).bind fun r123 =>
 (mewsref16.Remove.loop0 r123 name ⟨0, ([] : List api.File)⟩).bind fun s180 =>
 some { d with Files := s180 }

structure mewsref16.Rename.S0 where
 i : Int
 c : List UInt8
 c2 : List api.File

noncomputable def mewsref16.Rename.body0 (r174 : List api.File) (from_ : List UInt8) (r160 : api.File × Bool) (to : List UInt8) (s288 : mewsref16.Rename.S0) : Option (mewsref16.Rename.S0 ⊕ (List api.File)) :=
 if s288.i < (r174.length : Int) then
  (
   need (InB s288.i r174.length) <|
   if (ix r174 s288.i).Name = from_ then
    need ((s288.c2.length + [{ r160.1 with Name := to }].length) * 40 ≤ 140737488355328) <|
    some (to, s288.c2 ++ [{ r160.1 with Name := to }])
   else
    need (InB s288.i r174.length) <|
    need ((s288.c2.length + [(ix r174 s288.i)].length) * 40 ≤ 140737488355328) <|
    some (s288.c, s288.c2 ++ [(ix r174 s288.i)])).bind fun s300 =>
  some (.inl ⟨IntKind.wrap .i64 (s288.i + 1), s300.1, s300.2⟩)
 else
  some (.inr s288.c2)

noncomputable def mewsref16.Rename.loop0 (r174 : List api.File) (from_ : List UInt8) (r160 : api.File × Bool) (to : List UInt8) (s288 : mewsref16.Rename.S0) : Option (List api.File) := whileO (mewsref16.Rename.body0 r174 from_ r160 to) s288

noncomputable def mewsref16.Rename (d : api.Disk) (from_ : List UInt8) (to : List UInt8) : Option (api.Disk × Int) :=
 (mewsref16.Find d from_).bind fun r160 =>
 if (!r160.2) = true then
  some (d, 8)
 else
  (mewsref16.Meets d from_ 3).bind fun r162 =>
  if r162.2.2 = true then
   some (r162.1, 15)
  else
   (
    if from_ = to then
     some (r162.1.Files, r162.1.Faults)
    else
     (mewsref16.Remove r162.1 to).bind fun r171 =>
     some (r171.Files, r171.Faults)).bind fun s168 =>
   (mewsref16.Files ({ Files := s168.1, Faults := s168.2 } : api.Disk)).bind fun r174 =>
   (mewsref16.Rename.loop0 r174 from_ r160 to ⟨0, r160.1.Name, ([] : List api.File)⟩).bind fun s243 =>
   some (({ Files := s243, Faults := s168.2 } : api.Disk), 0)

noncomputable def mewsref16.Cut (d : api.Disk) (name : List UInt8) (n_ : Int) : Option (api.Disk × Int) :=
 (mewsref16.Find d name).bind fun r13 =>
 if (!r13.2) = true then
  some (d, 8)
 else
  (mewsref16.between n_ (r13.1.Data.length : Int)).bind fun r15 =>
  need (InR 0 r15 r13.1.Data.length) <|
  (mewsref16.between r13.1.Synced ((sub r13.1.Data 0 r15).length : Int)).bind fun r17 =>
  (mewsref16.with_ d ({ Name := r13.1.Name, Data := sub r13.1.Data 0 r15, Synced := r17 } : api.File)).bind fun r18 =>
  some (r18, 0)

structure mewsref16.Crash.S0 where
 i : Int
 c : List api.File

structure mewsref16.Crash.S2 where
 more : Int
 k : Int

noncomputable def mewsref16.Crash.body2 (keeps : List api.Keep) (r589 : List api.File) (s1072 : mewsref16.Crash.S0) (s1150 : mewsref16.Crash.S2) : Option (mewsref16.Crash.S2 ⊕ Int) :=
 if 0 ≤ s1150.k then
  (
   need (InB s1150.k keeps.length) <|
   if (ix keeps s1150.k).Name = (ix r589 s1072.i).Name then
    need (InB s1150.k keeps.length) <|
    (mewsref16.between (ix keeps s1150.k).Bytes (IntKind.wrap .i64 (((ix r589 s1072.i).Data.length : Int) - (ix r589 s1072.i).Synced))).bind fun r1163 =>
    some r1163
   else
    some s1150.more).bind fun s1158 =>
  some (.inl ⟨s1158, IntKind.wrap .i64 (s1150.k - 1)⟩)
 else
  some (.inr s1150.more)

noncomputable def mewsref16.Crash.loop2 (keeps : List api.Keep) (r589 : List api.File) (s1072 : mewsref16.Crash.S0) (s1150 : mewsref16.Crash.S2) : Option Int := whileO (mewsref16.Crash.body2 keeps r589 s1072) s1150

noncomputable def mewsref16.Crash.body0 (r589 : List api.File) (keeps : List api.Keep) (s1072 : mewsref16.Crash.S0) : Option (mewsref16.Crash.S0 ⊕ (List api.File)) :=
 if s1072.i < (r589.length : Int) then
  need (InB s1072.i r589.length) <|
  (mewsref16.Crash.loop2 keeps r589 s1072 ⟨0, IntKind.wrap .i64 ((keeps.length : Int) - 1)⟩).bind fun s1121 =>
  need (InR 0 (IntKind.wrap .i64 ((ix r589 s1072.i).Synced + s1121)) (ix r589 s1072.i).Data.length) <|
  need ((s1072.c.length + [({ Name := (ix r589 s1072.i).Name, Data := sub (ix r589 s1072.i).Data 0 (IntKind.wrap .i64 ((ix r589 s1072.i).Synced + s1121)), Synced := IntKind.wrap .i64 ((ix r589 s1072.i).Synced + s1121) } : api.File)].length) * 40 ≤ 140737488355328) <|
  some (.inl ⟨IntKind.wrap .i64 (s1072.i + 1), s1072.c ++ [({ Name := (ix r589 s1072.i).Name, Data := sub (ix r589 s1072.i).Data 0 (IntKind.wrap .i64 ((ix r589 s1072.i).Synced + s1121)), Synced := IntKind.wrap .i64 ((ix r589 s1072.i).Synced + s1121) } : api.File)]⟩)
 else
  some (.inr s1072.c)

noncomputable def mewsref16.Crash.loop0 (r589 : List api.File) (keeps : List api.Keep) (s1072 : mewsref16.Crash.S0) : Option (List api.File) := whileO (mewsref16.Crash.body0 r589 keeps) s1072

noncomputable def mewsref16.Crash (d : api.Disk) (keeps : List api.Keep) : Option api.Disk :=
 (mewsref16.Files d).bind fun r589 =>
 (mewsref16.Crash.loop0 r589 keeps ⟨0, ([] : List api.File)⟩).bind fun s879 =>
 some ({ Files := s879, Faults := ([] : List api.Fault) } : api.Disk)

noncomputable def mewslaw16.did (d : api.Disk) (o_ : mewslaw16.Op) : Option (api.Disk × Int × Int) :=
 (
  if o_.Kind = 0 then
   (mewsref16.Write d o_.Name o_.S).bind fun r64 =>
   some (r64.2.1, r64.2.2, r64.1.Files, r64.1.Faults)
  else
   if o_.Kind = 1 then
    (mewsref16.Sync d o_.Name).bind fun r66 =>
    some (0, r66.2, r66.1.Files, r66.1.Faults)
   else
    if o_.Kind = 2 then
     (mewsref16.Rename d o_.Name o_.S).bind fun r67 =>
     some (0, r67.2, r67.1.Files, r67.1.Faults)
    else
     if o_.Kind = 3 then
      (mewsref16.Remove d o_.Name).bind fun r68 =>
      some (0, 0, r68.Files, r68.Faults)
     else
      if o_.Kind = 4 then
       (mewsref16.Cut d o_.Name o_.N).bind fun r70 =>
       some (0, r70.2, r70.1.Files, r70.1.Faults)
      else
       if o_.Kind = 5 then
        (mewsref16.Crash d [({ Name := o_.Name, Bytes := o_.N } : api.Keep), ({ Name := o_.Name, Bytes := 1 } : api.Keep)]).bind fun r71 =>
        some (0, 0, r71.Files, r71.Faults)
       else
        (mewslaw16.faulty d o_).bind fun r73 =>
        some (0, 0, r73.Files, r73.Faults)).bind fun s61 =>
 some (({ Files := s61.2.2.1, Faults := s61.2.2.2 } : api.Disk), s61.1, s61.2.1)

structure mewsref16.Same.S0 where
 i : Int

noncomputable def mewsref16.Same.body0 (r143 : List api.File) (b : api.Disk) (s223 : mewsref16.Same.S0) : Option (mewsref16.Same.S0 ⊕ (Unit ⊕ Bool)) :=
 if s223.i < (r143.length : Int) then
  need (InB s223.i r143.length) <|
  (mewsref16.Find b (ix r143 s223.i).Name).bind fun r228 =>
  (
   if (!r228.2) = true then
    some true
   else
    need (InB s223.i r143.length) <|
    some (!decide (r228.1 = (ix r143 s223.i)))).bind fun s232 =>
  if s232 = true then
   some (.inr (.inr false))
  else
   some (.inl ⟨IntKind.wrap .i64 (s223.i + 1)⟩)
 else
  some (.inr (.inl ()))

noncomputable def mewsref16.Same.loop0 (r143 : List api.File) (b : api.Disk) (s223 : mewsref16.Same.S0) : Option (Unit ⊕ Bool) := whileO (mewsref16.Same.body0 r143 b) s223

structure mewsref16.Same.S2 where
 i : Int

noncomputable def mewsref16.Same.body2 (a : api.Disk) (b : api.Disk) (s270 : mewsref16.Same.S2) : Option (mewsref16.Same.S2 ⊕ (Unit ⊕ Bool)) :=
 if s270.i < (a.Faults.length : Int) then
  need (InB s270.i a.Faults.length) <|
  need (InB s270.i b.Faults.length) <|
  if (ix a.Faults s270.i) = (ix b.Faults s270.i) then
   some (.inl ⟨IntKind.wrap .i64 (s270.i + 1)⟩)
  else
   some (.inr (.inr false))
 else
  some (.inr (.inl ()))

noncomputable def mewsref16.Same.loop2 (a : api.Disk) (b : api.Disk) (s270 : mewsref16.Same.S2) : Option (Unit ⊕ Bool) := whileO (mewsref16.Same.body2 a b) s270

noncomputable def mewsref16.Same (a : api.Disk) (b : api.Disk) : Option Bool :=
 (mewsref16.Files a).bind fun r143 =>
 (mewsref16.Files b).bind fun r145 =>
 letO (
  if (r143.length : Int) = (r145.length : Int) then
   (!decide ((a.Faults.length : Int) = (b.Faults.length : Int)))
  else
   true) fun s148 =>
 if s148 = true then
  some false
 else
  (mewsref16.Same.loop0 r143 b ⟨0⟩).bind fun s279 => onSum s279 (fun s194 =>
   (mewsref16.Same.loop2 a b ⟨0⟩).bind fun s278 => onSum s278 (fun s257 =>
    some true) fun s278x => some s278x) fun s279x => some s279x

structure mewslaw16.DiskPlays.S0 where
 t30 : Int
 c : List api.File
 c2 : List api.Fault
 c3 : List api.File
 c4 : List api.Fault

structure mewslaw16.DiskPlays.S2 where
 t126 : Int

noncomputable def mewslaw16.DiskPlays.body2 (r2279 : List (List UInt8)) (r2243 : api.Disk × Int × Int) (r2241 : api.Disk × Int × Int) (s2312 : mewslaw16.DiskPlays.S2) : Option (mewslaw16.DiskPlays.S2 ⊕ (((List api.File) × (List api.Fault) × (List api.File) × (List api.Fault)) ⊕ (mewslaw16.DiskPlays.S0 ⊕ (Unit ⊕ Bool)))) :=
 if s2312.t126 < (r2279.length : Int) then
  need (InB s2312.t126 r2279.length) <|
  (mewsref16.Find r2243.1 (ix r2279 s2312.t126)).bind fun r2317 =>
  (
   if (!r2317.2) = true then
    some true
   else
    if 0 < s2312.t126 then
     need (InB (IntKind.wrap .i64 (s2312.t126 - 1)) r2279.length) <|
     some (!strLt (ix r2279 (IntKind.wrap .i64 (s2312.t126 - 1))) (ix r2279 s2312.t126))
    else
     some false).bind fun s2322 =>
  if s2322 = true then
   some (.inr (.inr (.inr (.inr false))))
  else
   some (.inl ⟨IntKind.wrap .i64 (s2312.t126 + 1)⟩)
 else
  some (.inr (.inl (r2241.1.Files, r2241.1.Faults, r2243.1.Files, r2243.1.Faults)))

noncomputable def mewslaw16.DiskPlays.loop2 (r2279 : List (List UInt8)) (r2243 : api.Disk × Int × Int) (r2241 : api.Disk × Int × Int) (s2312 : mewslaw16.DiskPlays.S2) : Option (((List api.File) × (List api.Fault) × (List api.File) × (List api.Fault)) ⊕ (mewslaw16.DiskPlays.S0 ⊕ (Unit ⊕ Bool))) := whileO (mewslaw16.DiskPlays.body2 r2279 r2243 r2241) s2312

noncomputable def mewslaw16.DiskPlays.body0 (l : List mewslaw16.Op) (s2139 : mewslaw16.DiskPlays.S0) : Option (mewslaw16.DiskPlays.S0 ⊕ (Unit ⊕ Bool)) :=
 if s2139.t30 < (l.length : Int) then
  (
   need (InB s2139.t30 l.length) <|
   (mewslaw16.does ({ Files := s2139.c, Faults := s2139.c2 } : api.Disk) (ix l s2139.t30)).bind fun r2241 =>
   (mewslaw16.did ({ Files := s2139.c3, Faults := s2139.c4 } : api.Disk) (ix l s2139.t30)).bind fun r2243 =>
   (disk.Read r2241.1 (ix l s2139.t30).Name).bind fun r2245 =>
   (mewsref16.Find r2243.1 (ix l s2139.t30).Name).bind fun r2246 =>
   (
    if r2241.2.1 = r2243.2.1 then
     if r2241.2.2 = r2243.2.2 then
      (mewsref16.Same r2241.1 r2243.1).bind fun r2267 =>
      if (!r2267) = true then
       some true
      else
       (disk.Same r2241.1 r2243.1).bind fun r2269 =>
       if (!r2269) = true then
        some true
       else
        if r2245.1 = r2246.1.Data then
         if (!((decide (r2245.2 = 0)) == r2246.2)) = true then
          some true
         else
          if r2245.2 = 0 then
           (disk.Safe r2241.1 (ix l s2139.t30).Name).bind fun r2277 =>
           need (InR 0 r2246.1.Synced r2246.1.Data.length) <|
           some (!decide (r2277 = (sub r2246.1.Data 0 r2246.1.Synced)))
          else
           if r2245.2 = 8 then
            (disk.Safe r2241.1 (ix l s2139.t30).Name).bind fun r2275 =>
            need (InR 0 r2246.1.Synced r2246.1.Data.length) <|
            some (!decide (r2275 = (sub r2246.1.Data 0 r2246.1.Synced)))
           else
            some true
        else
         some true
     else
      some true
    else
     some true).bind fun s2262 =>
   if s2262 = true then
    some (.inr (.inr (.inr false)))
   else
    (disk.Names r2241.1).bind fun r2279 =>
    (mewsref16.Files r2243.1).bind fun r2280 =>
    if (r2279.length : Int) = (r2280.length : Int) then
     mewslaw16.DiskPlays.loop2 r2279 r2243 r2241 ⟨0⟩
    else
     some (.inr (.inr (.inr false)))).bind fun s2332 => onSum s2332 (fun s2236 =>
   some (.inl ⟨IntKind.wrap .i64 (s2139.t30 + 1), s2236.1, s2236.2.1, s2236.2.2.1, s2236.2.2.2⟩)) fun s2332x => some s2332x
 else
  some (.inr (.inl ()))

noncomputable def mewslaw16.DiskPlays.loop0 (l : List mewslaw16.Op) (s2139 : mewslaw16.DiskPlays.S0) : Option (Unit ⊕ Bool) := whileO (mewslaw16.DiskPlays.body0 l) s2139

noncomputable def mewslaw16.DiskPlays (d : api.Disk) (l : List mewslaw16.Op) : Option Bool :=
 (mewslaw16.Far d l).bind fun r1170 =>
 if r1170 = true then
  (mewslaw16.alive).bind fun r1171 =>
  some r1171
 else
  (mewslaw16.DiskPlays.loop0 l ⟨0, d.Files, d.Faults, d.Files, d.Faults⟩).bind fun s2335 => onSum s2335 (fun s1752 =>
   (mewslaw16.alive).bind fun r2334 =>
   some r2334) fun s2335x => some s2335x

end Go.Pu
