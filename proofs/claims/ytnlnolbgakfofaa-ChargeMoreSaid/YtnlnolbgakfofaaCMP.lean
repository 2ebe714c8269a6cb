/- Printed by lift.py: the functions over data. -/
import Derived.Test.YtnlnolbgakfofaaCMT
set_option maxRecDepth 100000
set_option maxHeartbeats 0
namespace Go.Pu
open Go.Lift

structure mewsref19.Size.S0 where
 n : Int
 i : Int

noncomputable def mewsref19.Size.body0 (v_ : api.Value) (s226 : mewsref19.Size.S0) : Option (mewsref19.Size.S0 ⊕ Int) :=
 letO (
  if s226.i < (v_.List_.length : Int) then
   decide (s226.n < 100000)
  else
   false) fun s231 =>
 if s231 = true then
  need (InB s226.i v_.List_.length) <|
  some (.inl ⟨IntKind.wrap .i64 (s226.n + (IntKind.wrap .i64 (1 + ((ix v_.List_ s226.i).length : Int)))), IntKind.wrap .i64 (s226.i + 1)⟩)
 else
  some (.inr s226.n)

noncomputable def mewsref19.Size.loop0 (v_ : api.Value) (s226 : mewsref19.Size.S0) : Option Int := whileO (mewsref19.Size.body0 v_) s226

structure mewsref19.Size.S2 where
 n : Int
 i : Int

noncomputable def mewsref19.Size.body2 (v_ : api.Value) (s288 : mewsref19.Size.S2) : Option (mewsref19.Size.S2 ⊕ Int) :=
 letO (
  if s288.i < (v_.Hash.length : Int) then
   decide (s288.n < 100000)
  else
   false) fun s293 =>
 if s293 = true then
  need (InB s288.i v_.Hash.length) <|
  need (InB s288.i v_.Hash.length) <|
  some (.inl ⟨IntKind.wrap .i64 (s288.n + (IntKind.wrap .i64 ((IntKind.wrap .i64 (1 + ((ix v_.Hash s288.i).Key.length : Int))) + ((ix v_.Hash s288.i).Val.length : Int)))), IntKind.wrap .i64 (s288.i + 1)⟩)
 else
  some (.inr s288.n)

noncomputable def mewsref19.Size.loop2 (v_ : api.Value) (s288 : mewsref19.Size.S2) : Option Int := whileO (mewsref19.Size.body2 v_) s288

structure mewsref19.Size.S4 where
 n : Int
 i : Int

noncomputable def mewsref19.Size.body4 (v_ : api.Value) (s346 : mewsref19.Size.S4) : Option (mewsref19.Size.S4 ⊕ Int) :=
 letO (
  if s346.i < (v_.ZSet.length : Int) then
   decide (s346.n < 100000)
  else
   false) fun s351 =>
 if s351 = true then
  need (InB s346.i v_.ZSet.length) <|
  some (.inl ⟨IntKind.wrap .i64 (s346.n + (IntKind.wrap .i64 (1 + ((ix v_.ZSet s346.i).Member.length : Int)))), IntKind.wrap .i64 (s346.i + 1)⟩)
 else
  some (.inr s346.n)

noncomputable def mewsref19.Size.loop4 (v_ : api.Value) (s346 : mewsref19.Size.S4) : Option Int := whileO (mewsref19.Size.body4 v_) s346

noncomputable def mewsref19.Size (v_ : api.Value) : Option Int :=
 (mewsref19.Size.loop0 v_ ⟨(v_.Text.length : Int), 0⟩).bind fun s207 =>
 (mewsref19.Size.loop2 v_ ⟨s207, 0⟩).bind fun s267 =>
 (mewsref19.Size.loop4 v_ ⟨s267, 0⟩).bind fun s327 =>
 some s327

structure mewslaw19.Far.S0 where
 n : Int
 t8 : Int

noncomputable def mewslaw19.Far.body0 (l : List api.Value) (s83 : mewslaw19.Far.S0) : Option (mewslaw19.Far.S0 ⊕ (Unit ⊕ Bool)) :=
 if s83.t8 < (l.length : Int) then
  need (InB s83.t8 l.length) <|
  (mewsref19.Size (ix l s83.t8)).bind fun r89 =>
  if 3000 < (IntKind.wrap .i64 (s83.n + r89)) then
   some (.inr (.inr true))
  else
   some (.inl ⟨IntKind.wrap .i64 (s83.n + r89), IntKind.wrap .i64 (s83.t8 + 1)⟩)
 else
  some (.inr (.inl ()))

noncomputable def mewslaw19.Far.loop0 (l : List api.Value) (s83 : mewslaw19.Far.S0) : Option (Unit ⊕ Bool) := whileO (mewslaw19.Far.body0 l) s83

noncomputable def mewslaw19.Far (l : List api.Value) : Option Bool :=
 (mewslaw19.Far.loop0 l ⟨0, 0⟩).bind fun s92 => onSum s92 (fun s68 =>
  some (decide (100 < (l.length : Int)))) fun s92x => some s92x

noncomputable def charge.Text (s_ : List UInt8) : Option api.Value :=
 some ({ Kind := 1, Text := s_, List_ := ([] : List (List UInt8)), Hash := ([] : List api.Field), ZSet := ([] : List api.Scored) } : api.Value)

structure charge.Of.S1 where
 n : Int
 t38 : Int

noncomputable def charge.Of.body1 (e : api.Entry) (s202 : charge.Of.S1) : Option (charge.Of.S1 ⊕ Int) :=
 if s202.t38 < (e.Val.List_.length : Int) then
  need (InB s202.t38 e.Val.List_.length) <|
  some (.inl ⟨IntKind.wrap .i64 (s202.n + (IntKind.wrap .i64 (16 + ((ix e.Val.List_ s202.t38).length : Int)))), IntKind.wrap .i64 (s202.t38 + 1)⟩)
 else
  some (.inr s202.n)

noncomputable def charge.Of.loop1 (e : api.Entry) (s202 : charge.Of.S1) : Option Int := whileO (charge.Of.body1 e) s202

structure charge.Of.S3 where
 n : Int
 t54 : Int

noncomputable def charge.Of.body3 (e : api.Entry) (s214 : charge.Of.S3) : Option (charge.Of.S3 ⊕ Int) :=
 if s214.t54 < (e.Val.List_.length : Int) then
  need (InB s214.t54 e.Val.List_.length) <|
  some (.inl ⟨IntKind.wrap .i64 (s214.n + (IntKind.wrap .i64 (24 + ((ix e.Val.List_ s214.t54).length : Int)))), IntKind.wrap .i64 (s214.t54 + 1)⟩)
 else
  some (.inr s214.n)

noncomputable def charge.Of.loop3 (e : api.Entry) (s214 : charge.Of.S3) : Option Int := whileO (charge.Of.body3 e) s214

structure charge.Of.S5 where
 n : Int
 t70 : Int

noncomputable def charge.Of.body5 (e : api.Entry) (s228 : charge.Of.S5) : Option (charge.Of.S5 ⊕ Int) :=
 if s228.t70 < (e.Val.Hash.length : Int) then
  need (InB s228.t70 e.Val.Hash.length) <|
  some (.inl ⟨IntKind.wrap .i64 (s228.n + (IntKind.wrap .i64 ((IntKind.wrap .i64 (32 + ((ix e.Val.Hash s228.t70).Key.length : Int))) + ((ix e.Val.Hash s228.t70).Val.length : Int)))), IntKind.wrap .i64 (s228.t70 + 1)⟩)
 else
  some (.inr s228.n)

noncomputable def charge.Of.loop5 (e : api.Entry) (s228 : charge.Of.S5) : Option Int := whileO (charge.Of.body5 e) s228

structure charge.Of.S7 where
 n : Int
 t91 : Int

noncomputable def charge.Of.body7 (e : api.Entry) (s243 : charge.Of.S7) : Option (charge.Of.S7 ⊕ Int) :=
 if s243.t91 < (e.Val.ZSet.length : Int) then
  need (InB s243.t91 e.Val.ZSet.length) <|
  some (.inl ⟨IntKind.wrap .i64 (s243.n + (IntKind.wrap .i64 (40 + ((ix e.Val.ZSet s243.t91).Member.length : Int)))), IntKind.wrap .i64 (s243.t91 + 1)⟩)
 else
  some (.inr s243.n)

noncomputable def charge.Of.loop7 (e : api.Entry) (s243 : charge.Of.S7) : Option Int := whileO (charge.Of.body7 e) s243

noncomputable def charge.Of (e : api.Entry) : Option Int :=
 letO (
  if e.At = 0 then
   IntKind.wrap .i64 (56 + (e.Key.length : Int))
  else
   IntKind.wrap .i64 ((IntKind.wrap .i64 (56 + (e.Key.length : Int))) + 16)) fun s130 =>
 (
  if e.Val.Kind = 1 then
   some (IntKind.wrap .i64 (s130 + (e.Val.Text.length : Int)))
  else
   if e.Val.Kind = 2 then
    charge.Of.loop1 e ⟨s130, 0⟩
   else
    if e.Val.Kind = 4 then
     charge.Of.loop3 e ⟨s130, 0⟩
    else
     if e.Val.Kind = 3 then
      charge.Of.loop5 e ⟨s130, 0⟩
     else
      if e.Val.Kind = 5 then
       charge.Of.loop7 e ⟨s130, 0⟩
      else
       some s130).bind fun s193 =>
 some s193

structure charge.All.S0 where
 n : Int
 t8 : Int

noncomputable def charge.All.body0 (l : List api.Entry) (s71 : charge.All.S0) : Option (charge.All.S0 ⊕ Int) :=
 if s71.t8 < (l.length : Int) then
  need (InB s71.t8 l.length) <|
  (charge.Of (ix l s71.t8)).bind fun r77 =>
  some (.inl ⟨IntKind.wrap .i64 (s71.n + r77), IntKind.wrap .i64 (s71.t8 + 1)⟩)
 else
  some (.inr s71.n)

noncomputable def charge.All.loop0 (l : List api.Entry) (s71 : charge.All.S0) : Option Int := whileO (charge.All.body0 l) s71

noncomputable def charge.All (l : List api.Entry) : Option Int :=
 (charge.All.loop0 l ⟨0, 0⟩).bind fun s58 =>
 some s58

noncomputable def slices.Clone_string (s : List (List UInt8)) : Option (List (List UInt8)) :=
 need ((([] : List (List UInt8)).length + s.length) * 16 ≤ 140737488355328) <|
 some s

noncomputable def slices.Sort_string (x : List (List UInt8)) : Option (List (List UInt8)) :=
 need (x.length < 4611686018427387904) <|
 some (x.mergeSort fun a b => decide (a ≤ b))

noncomputable def slices.Compact_string (x : List (List UInt8)) : Option (List (List UInt8)) :=
 need (x.length < 4611686018427387904) <|
 some (Go.Lib.compact x)

noncomputable def slices.Clip_string (s_ : List (List UInt8)) : Option (List (List UInt8)) :=
 need (InR 0 (s_.length : Int) s_.length) <|
 some (sub s_ 0 (s_.length : Int))

noncomputable def charge.Set (l : List (List UInt8)) : Option api.Value :=
 if (l.length : Int) = 0 then
  some ({ Kind := 0, Text := ([] : List UInt8), List_ := ([] : List (List UInt8)), Hash := ([] : List api.Field), ZSet := ([] : List api.Scored) } : api.Value)
 else
  (slices.Clone_string l).bind fun r10 =>
  (slices.Sort_string r10).bind fun r12 =>
  (slices.Compact_string r12).bind fun r13 =>
  (slices.Clip_string r13).bind fun r15 =>
  some ({ Kind := 4, Text := ([] : List UInt8), List_ := r15, Hash := ([] : List api.Field), ZSet := ([] : List api.Scored) } : api.Value)

noncomputable def charge.May_1 (i : Int) (k_ : Int) (a2_ : api.Value) : Option Bool :=
 need (InB i a2_.List_.length) <|
 need (InB k_ a2_.List_.length) <|
 some (strLt (ix a2_.List_ i) (ix a2_.List_ k_))

structure charge.rises_charge_May_1.S0 where
 i : Int

noncomputable def charge.rises_charge_May_1.body0 (n_ : Int) (b0_ : api.Value) (s61 : charge.rises_charge_May_1.S0) : Option (charge.rises_charge_May_1.S0 ⊕ (Unit ⊕ Bool)) :=
 if s61.i < n_ then
  (charge.May_1 (IntKind.wrap .i64 (s61.i - 1)) s61.i b0_).bind fun r65 =>
  if (!r65) = true then
   some (.inr (.inr false))
  else
   some (.inl ⟨IntKind.wrap .i64 (s61.i + 1)⟩)
 else
  some (.inr (.inl ()))

noncomputable def charge.rises_charge_May_1.loop0 (n_ : Int) (b0_ : api.Value) (s61 : charge.rises_charge_May_1.S0) : Option (Unit ⊕ Bool) := whileO (charge.rises_charge_May_1.body0 n_ b0_) s61

noncomputable def charge.rises_charge_May_1 (n_ : Int) (b0_ : api.Value) : Option Bool :=
 (charge.rises_charge_May_1.loop0 n_ b0_ ⟨1⟩).bind fun s68 => onSum s68 (fun s50 =>
  some true) fun s68x => some s68x

noncomputable def charge.May_2 (i : Int) (k_ : Int) (a2_ : api.Value) : Option Bool :=
 need (InB i a2_.Hash.length) <|
 need (InB k_ a2_.Hash.length) <|
 some (strLt (ix a2_.Hash i).Key (ix a2_.Hash k_).Key)

structure charge.rises_charge_May_2.S0 where
 i : Int

noncomputable def charge.rises_charge_May_2.body0 (n_ : Int) (b0_ : api.Value) (s61 : charge.rises_charge_May_2.S0) : Option (charge.rises_charge_May_2.S0 ⊕ (Unit ⊕ Bool)) :=
 if s61.i < n_ then
  (charge.May_2 (IntKind.wrap .i64 (s61.i - 1)) s61.i b0_).bind fun r65 =>
  if (!r65) = true then
   some (.inr (.inr false))
  else
   some (.inl ⟨IntKind.wrap .i64 (s61.i + 1)⟩)
 else
  some (.inr (.inl ()))

noncomputable def charge.rises_charge_May_2.loop0 (n_ : Int) (b0_ : api.Value) (s61 : charge.rises_charge_May_2.S0) : Option (Unit ⊕ Bool) := whileO (charge.rises_charge_May_2.body0 n_ b0_) s61

noncomputable def charge.rises_charge_May_2 (n_ : Int) (b0_ : api.Value) : Option Bool :=
 (charge.rises_charge_May_2.loop0 n_ b0_ ⟨1⟩).bind fun s68 => onSum s68 (fun s50 =>
  some true) fun s68x => some s68x

noncomputable def charge.less (a : api.Scored) (b : api.Scored) : Option Bool :=
 letO (
  if a.Score < b.Score then
   true
  else
   if a.Score = b.Score then
    strLt a.Member b.Member
   else
    false) fun s14 =>
 some s14

noncomputable def charge.May_3 (i : Int) (k_ : Int) (a2_ : api.Value) : Option Bool :=
 need (InB i a2_.ZSet.length) <|
 need (InB k_ a2_.ZSet.length) <|
 (charge.less (ix a2_.ZSet i) (ix a2_.ZSet k_)).bind fun r6 =>
 some r6

structure charge.rises_charge_May_3.S0 where
 i : Int

noncomputable def charge.rises_charge_May_3.body0 (n_ : Int) (b0_ : api.Value) (s61 : charge.rises_charge_May_3.S0) : Option (charge.rises_charge_May_3.S0 ⊕ (Unit ⊕ Bool)) :=
 if s61.i < n_ then
  (charge.May_3 (IntKind.wrap .i64 (s61.i - 1)) s61.i b0_).bind fun r65 =>
  if (!r65) = true then
   some (.inr (.inr false))
  else
   some (.inl ⟨IntKind.wrap .i64 (s61.i + 1)⟩)
 else
  some (.inr (.inl ()))

noncomputable def charge.rises_charge_May_3.loop0 (n_ : Int) (b0_ : api.Value) (s61 : charge.rises_charge_May_3.S0) : Option (Unit ⊕ Bool) := whileO (charge.rises_charge_May_3.body0 n_ b0_) s61

noncomputable def charge.rises_charge_May_3 (n_ : Int) (b0_ : api.Value) : Option Bool :=
 (charge.rises_charge_May_3.loop0 n_ b0_ ⟨1⟩).bind fun s68 => onSum s68 (fun s50 =>
  some true) fun s68x => some s68x

structure charge.once.S0 where
 t8 : Int
 v : List (List UInt8)

noncomputable def charge.once.body0 (l : List api.Scored) (s97 : charge.once.S0) : Option (charge.once.S0 ⊕ (List (List UInt8))) :=
 if s97.t8 < (l.length : Int) then
  need (InB s97.t8 l.length) <|
  need ((s97.v.length + [(ix l s97.t8).Member].length) * 16 ≤ 140737488355328) <|
  some (.inl ⟨IntKind.wrap .i64 (s97.t8 + 1), s97.v ++ [(ix l s97.t8).Member]⟩)
 else
  some (.inr s97.v)

noncomputable def charge.once.loop0 (l : List api.Scored) (s97 : charge.once.S0) : Option (List (List UInt8)) := whileO (charge.once.body0 l) s97

noncomputable def charge.once (l : List api.Scored) : Option Bool :=
 (charge.once.loop0 l ⟨0, ([] : List (List UInt8))⟩).bind fun s80 =>
 (slices.Sort_string s80).bind fun r108 =>
 (slices.Compact_string r108).bind fun r109 =>
 some (decide ((r109.length : Int) = (l.length : Int)))

structure slices.Equal_string.S0 where
 t13 : Int

noncomputable def slices.Equal_string.body0 (s1_ : List (List UInt8)) (s2_ : List (List UInt8)) (s73 : slices.Equal_string.S0) : Option (slices.Equal_string.S0 ⊕ (Unit ⊕ Bool)) :=
 if s73.t13 < (s1_.length : Int) then
  need (InB s73.t13 s1_.length) <|
  need (InB s73.t13 s2_.length) <|
  if (ix s1_ s73.t13) = (ix s2_ s73.t13) then
   some (.inl ⟨IntKind.wrap .i64 (s73.t13 + 1)⟩)
  else
   some (.inr (.inr false))
 else
  some (.inr (.inl ()))

noncomputable def slices.Equal_string.loop0 (s1_ : List (List UInt8)) (s2_ : List (List UInt8)) (s73 : slices.Equal_string.S0) : Option (Unit ⊕ Bool) := whileO (slices.Equal_string.body0 s1_ s2_) s73

noncomputable def slices.Equal_string (s1_ : List (List UInt8)) (s2_ : List (List UInt8)) : Option Bool :=
 if (s1_.length : Int) = (s2_.length : Int) then
  (slices.Equal_string.loop0 s1_ s2_ ⟨0⟩).bind fun s81 => onSum s81 (fun s60 =>
   some true) fun s81x => some s81x
 else
  some false

structure slices.Equal_api_Field.S0 where
 t13 : Int

noncomputable def slices.Equal_api_Field.body0 (s1_ : List api.Field) (s2_ : List api.Field) (s73 : slices.Equal_api_Field.S0) : Option (slices.Equal_api_Field.S0 ⊕ (Unit ⊕ Bool)) :=
 if s73.t13 < (s1_.length : Int) then
  need (InB s73.t13 s1_.length) <|
  need (InB s73.t13 s2_.length) <|
  if (ix s1_ s73.t13) = (ix s2_ s73.t13) then
   some (.inl ⟨IntKind.wrap .i64 (s73.t13 + 1)⟩)
  else
   some (.inr (.inr false))
 else
  some (.inr (.inl ()))

noncomputable def slices.Equal_api_Field.loop0 (s1_ : List api.Field) (s2_ : List api.Field) (s73 : slices.Equal_api_Field.S0) : Option (Unit ⊕ Bool) := whileO (slices.Equal_api_Field.body0 s1_ s2_) s73

noncomputable def slices.Equal_api_Field (s1_ : List api.Field) (s2_ : List api.Field) : Option Bool :=
 if (s1_.length : Int) = (s2_.length : Int) then
  (slices.Equal_api_Field.loop0 s1_ s2_ ⟨0⟩).bind fun s81 => onSum s81 (fun s60 =>
   some true) fun s81x => some s81x
 else
  some false

structure slices.Equal_api_Scored.S0 where
 t13 : Int

noncomputable def slices.Equal_api_Scored.body0 (s1_ : List api.Scored) (s2_ : List api.Scored) (s73 : slices.Equal_api_Scored.S0) : Option (slices.Equal_api_Scored.S0 ⊕ (Unit ⊕ Bool)) :=
 if s73.t13 < (s1_.length : Int) then
  need (InB s73.t13 s1_.length) <|
  need (InB s73.t13 s2_.length) <|
  if (ix s1_ s73.t13) = (ix s2_ s73.t13) then
   some (.inl ⟨IntKind.wrap .i64 (s73.t13 + 1)⟩)
  else
   some (.inr (.inr false))
 else
  some (.inr (.inl ()))

noncomputable def slices.Equal_api_Scored.loop0 (s1_ : List api.Scored) (s2_ : List api.Scored) (s73 : slices.Equal_api_Scored.S0) : Option (Unit ⊕ Bool) := whileO (slices.Equal_api_Scored.body0 s1_ s2_) s73

noncomputable def slices.Equal_api_Scored (s1_ : List api.Scored) (s2_ : List api.Scored) : Option Bool :=
 if (s1_.length : Int) = (s2_.length : Int) then
  (slices.Equal_api_Scored.loop0 s1_ s2_ ⟨0⟩).bind fun s81 => onSum s81 (fun s60 =>
   some true) fun s81x => some s81x
 else
  some false

noncomputable def charge.Same (a : api.Value) (b : api.Value) : Option Bool :=
 (
  if a.Kind = b.Kind then
   if a.Text = b.Text then
    (slices.Equal_string a.List_ b.List_).bind fun r34 =>
    if r34 = true then
     (slices.Equal_api_Field a.Hash b.Hash).bind fun r36 =>
     if r36 = true then
      (slices.Equal_api_Scored a.ZSet b.ZSet).bind fun r38 =>
      some r38
     else
      some false
    else
     some false
   else
    some false
  else
   some false).bind fun s29 =>
 some s29

noncomputable def charge.May (v_ : api.Value) : Option Bool :=
 (
  if v_.Kind = 1 then
   some (true, ([] : List UInt8), v_.List_, v_.Hash, v_.ZSet)
  else
   if v_.Kind = 2 then
    some (decide (0 < (v_.List_.length : Int)), v_.Text, ([] : List (List UInt8)), v_.Hash, v_.ZSet)
   else
    if v_.Kind = 4 then
     if 0 < (v_.List_.length : Int) then
      (charge.rises_charge_May_1 (v_.List_.length : Int) v_).bind fun r58 =>
      some (r58, v_.Text, ([] : List (List UInt8)), v_.Hash, v_.ZSet)
     else
      some (false, v_.Text, ([] : List (List UInt8)), v_.Hash, v_.ZSet)
    else
     if v_.Kind = 3 then
      if 0 < (v_.Hash.length : Int) then
       (charge.rises_charge_May_2 (v_.Hash.length : Int) v_).bind fun r60 =>
       some (r60, v_.Text, v_.List_, ([] : List api.Field), v_.ZSet)
      else
       some (false, v_.Text, v_.List_, ([] : List api.Field), v_.ZSet)
     else
      if v_.Kind = 5 then
       if 0 < (v_.ZSet.length : Int) then
        (charge.rises_charge_May_3 (v_.ZSet.length : Int) v_).bind fun r62 =>
        if r62 = true then
         (charge.once v_.ZSet).bind fun r64 =>
         some (r64, v_.Text, v_.List_, v_.Hash, ([] : List api.Scored))
        else
         some (false, v_.Text, v_.List_, v_.Hash, ([] : List api.Scored))
       else
        some (false, v_.Text, v_.List_, v_.Hash, ([] : List api.Scored))
      else
       some (false, v_.Text, v_.List_, v_.Hash, v_.ZSet)).bind fun s54 =>
 (
  if s54.1 = true then
   (charge.Same ({ Kind := 0, Text := s54.2.1, List_ := s54.2.2.1, Hash := s54.2.2.2.1, ZSet := s54.2.2.2.2 } : api.Value) ({ Kind := 0, Text := ([] : List UInt8), List_ := ([] : List (List UInt8)), Hash := ([] : List api.Field), ZSet := ([] : List api.Scored) } : api.Value)).bind fun r76 =>
   some r76
  else
   some false).bind fun s72 =>
 some s72

noncomputable def charge.Name (kind : Int) : Option (List UInt8) :=
 letO (
  if kind < 0 then
   true
  else
   decide (6 ≤ kind)) fun s13 =>
 if s13 = true then
  some ([] : List UInt8)
 else
  need (InB kind 6) <|
  need (([[110, 111, 110, 101], [115, 116, 114, 105, 110, 103], [108, 105, 115, 116], [104, 97, 115, 104], [115, 101, 116], [122, 115, 101, 116]] : List (List UInt8)).length = 6) <|
  need (InB kind ([[110, 111, 110, 101], [115, 116, 114, 105, 110, 103], [108, 105, 115, 116], [104, 97, 115, 104], [115, 101, 116], [122, 115, 101, 116]] : List (List UInt8)).length) <|
  some (ix ([[110, 111, 110, 101], [115, 116, 114, 105, 110, 103], [108, 105, 115, 116], [104, 97, 115, 104], [115, 101, 116], [122, 115, 101, 116]] : List (List UInt8)) kind)

noncomputable def mewslaw19.alive  : Option Bool :=
 (charge.Text [98, 99]).bind fun r27 =>
 (
  (charge.Of ({ Key := [97], Val := r27, At := 0 } : api.Entry)).bind fun r43 =>
  if r43 = 59 then
   (charge.Of ({ Key := [97], Val := r27, At := 7 } : api.Entry)).bind fun r45 =>
   if r45 = 75 then
    (charge.All [({ Key := [97], Val := r27, At := 0 } : api.Entry), ({ Key := [97], Val := r27, At := 7 } : api.Entry)]).bind fun r47 =>
    if r47 = 134 then
     (charge.Set [[98], [97], [98]]).bind fun r49 =>
     (charge.May r49).bind fun r50 =>
     if r50 = true then
      (charge.Name 5).bind fun r52 =>
      some (decide (r52 = [122, 115, 101, 116]))
     else
      some false
    else
     some false
   else
    some false
  else
   some false).bind fun s40 =>
 some s40

noncomputable def mewslaw19.ChargeMore (e : api.Entry) (s_ : List UInt8) (f : api.Field) : Option Bool :=
 (
  (mewslaw19.Far [e.Val]).bind fun r92 =>
  if r92 = true then
   some true
  else
   some (decide (2000 < (IntKind.wrap .i64 ((IntKind.wrap .i64 ((IntKind.wrap .i64 ((e.Key.length : Int) + (s_.length : Int))) + (f.Key.length : Int))) + (f.Val.length : Int)))))).bind fun s89 =>
 if s89 = true then
  (mewslaw19.alive).bind fun r94 =>
  some r94
 else
  (charge.Of e).bind fun r95 =>
  (
   if e.Val.Kind = 1 then
    need (e.Val.Text.length + s_.length ≤ 9223372036854775807) <|
    some ((s_.length : Int), e.Val.Text ++ s_, e.Val.List_, e.Val.Hash, e.Val.ZSet)
   else
    letO (
     if e.Val.Kind = 2 then
      decide (e.Val.Kind = 2)
     else
      decide (e.Val.Kind = 4)) fun s125 =>
    if s125 = true then
     need ((([] : List (List UInt8)).length + e.Val.List_.length) * 16 ≤ 140737488355328) <|
     need (((([] : List (List UInt8)) ++ e.Val.List_).length + [s_].length) * 16 ≤ 140737488355328) <|
     if e.Val.Kind = 4 then
      some (IntKind.wrap .i64 (24 + (s_.length : Int)), e.Val.Text, (([] : List (List UInt8)) ++ e.Val.List_) ++ [s_], e.Val.Hash, e.Val.ZSet)
     else
      some (IntKind.wrap .i64 (16 + (s_.length : Int)), e.Val.Text, (([] : List (List UInt8)) ++ e.Val.List_) ++ [s_], e.Val.Hash, e.Val.ZSet)
    else
     if e.Val.Kind = 3 then
      need ((([] : List api.Field).length + e.Val.Hash.length) * 32 ≤ 140737488355328) <|
      need (((([] : List api.Field) ++ e.Val.Hash).length + [f].length) * 32 ≤ 140737488355328) <|
      some (IntKind.wrap .i64 ((IntKind.wrap .i64 (32 + (f.Key.length : Int))) + (f.Val.length : Int)), e.Val.Text, e.Val.List_, (([] : List api.Field) ++ e.Val.Hash) ++ [f], e.Val.ZSet)
     else
      if e.Val.Kind = 5 then
       need ((([] : List api.Scored).length + e.Val.ZSet.length) * 24 ≤ 140737488355328) <|
       need (((([] : List api.Scored) ++ e.Val.ZSet).length + [({ Member := s_, Score := 0 } : api.Scored)].length) * 24 ≤ 140737488355328) <|
       some (IntKind.wrap .i64 (40 + (s_.length : Int)), e.Val.Text, e.Val.List_, e.Val.Hash, (([] : List api.Scored) ++ e.Val.ZSet) ++ [({ Member := s_, Score := 0 } : api.Scored)])
      else
       some (0, e.Val.Text, e.Val.List_, e.Val.Hash, e.Val.ZSet)).bind fun s120 =>
  (
   (charge.Of { e with Val := ({ Kind := e.Val.Kind, Text := s120.2.1, List_ := s120.2.2.1, Hash := s120.2.2.2.1, ZSet := s120.2.2.2.2 } : api.Value) }).bind fun r151 =>
   if r151 = (IntKind.wrap .i64 (r95 + s120.1)) then
    some (decide (r95 < 56))
   else
    some true).bind fun s148 =>
  if s148 = true then
   some false
  else
   letO (
    if e.At = 0 then
     r95
    else
     IntKind.wrap .i64 (r95 - 16)) fun s154 =>
   (
    (charge.Of { e with At := 0 }).bind fun r164 =>
    if s154 = r164 then
     (mewslaw19.alive).bind fun r166 =>
     some r166
    else
     some false).bind fun s161 =>
   some s161

end Go.Pu
