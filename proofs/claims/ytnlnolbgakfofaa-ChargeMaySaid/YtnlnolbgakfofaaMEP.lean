/- Printed by lift.py: the functions over data. -/
import Derived.Test.YtnlnolbgakfofaaMET
set_option maxRecDepth 100000
set_option maxHeartbeats 0
namespace Go.Pu
open Go.Lift

structure mewsref19.Size.S0 where
 n : Int
 i : Int

noncomputable def mewsref19.Size.body0 (v_ : api.Value) (s226 : mewsref19.Size.S0) : Option (mewsref19.Size.S0 ⊕ Int) :=
 letO (
  if s226.i < (v_.List_.length : Int) then
   decide (s226.n < 100000)
  else
   false) fun s231 =>
 if s231 = true then
  need (InB s226.i v_.List_.length) <|
  some (.inl ⟨IntKind.wrap .i64 (s226.n + (IntKind.wrap .i64 (1 + ((ix v_.List_ s226.i).length : Int)))), IntKind.wrap .i64 (s226.i + 1)⟩)
 else
  some (.inr s226.n)

noncomputable def mewsref19.Size.loop0 (v_ : api.Value) (s226 : mewsref19.Size.S0) : Option Int := whileO (mewsref19.Size.body0 v_) s226

structure mewsref19.Size.S2 where
 n : Int
 i : Int

noncomputable def mewsref19.Size.body2 (v_ : api.Value) (s288 : mewsref19.Size.S2) : Option (mewsref19.Size.S2 ⊕ Int) :=
 letO (
  if s288.i < (v_.Hash.length : Int) then
   decide (s288.n < 100000)
  else
   false) fun s293 =>
 if s293 = true then
  need (InB s288.i v_.Hash.length) <|
  need (InB s288.i v_.Hash.length) <|
  some (.inl ⟨IntKind.wrap .i64 (s288.n + (IntKind.wrap .i64 ((IntKind.wrap .i64 (1 + ((ix v_.Hash s288.i).Key.length : Int))) + ((ix v_.Hash s288.i).Val.length : Int)))), IntKind.wrap .i64 (s288.i + 1)⟩)
 else
  some (.inr s288.n)

noncomputable def mewsref19.Size.loop2 (v_ : api.Value) (s288 : mewsref19.Size.S2) : Option Int := whileO (mewsref19.Size.body2 v_) s288

structure mewsref19.Size.S4 where
 n : Int
 i : Int

noncomputable def mewsref19.Size.body4 (v_ : api.Value) (s346 : mewsref19.Size.S4) : Option (mewsref19.Size.S4 ⊕ Int) :=
 letO (
  if s346.i < (v_.ZSet.length : Int) then
   decide (s346.n < 100000)
  else
   false) fun s351 =>
 if s351 = true then
  need (InB s346.i v_.ZSet.length) <|
  some (.inl ⟨IntKind.wrap .i64 (s346.n + (IntKind.wrap .i64 (1 + ((ix v_.ZSet s346.i).Member.length : Int)))), IntKind.wrap .i64 (s346.i + 1)⟩)
 else
  some (.inr s346.n)

noncomputable def mewsref19.Size.loop4 (v_ : api.Value) (s346 : mewsref19.Size.S4) : Option Int := whileO (mewsref19.Size.body4 v_) s346

noncomputable def mewsref19.Size (v_ : api.Value) : Option Int :=
 (mewsref19.Size.loop0 v_ ⟨(v_.Text.length : Int), 0⟩).bind fun s207 =>
 (mewsref19.Size.loop2 v_ ⟨s207, 0⟩).bind fun s267 =>
 (mewsref19.Size.loop4 v_ ⟨s267, 0⟩).bind fun s327 =>
 some s327

structure mewslaw19.Far.S0 where
 n : Int
 t8 : Int

noncomputable def mewslaw19.Far.body0 (l : List api.Value) (s83 : mewslaw19.Far.S0) : Option (mewslaw19.Far.S0 ⊕ (Unit ⊕ Bool)) :=
 if s83.t8 < (l.length : Int) then
  need (InB s83.t8 l.length) <|
  (mewsref19.Size (ix l s83.t8)).bind fun r89 =>
  if 3000 < (IntKind.wrap .i64 (s83.n + r89)) then
   some (.inr (.inr true))
  else
   some (.inl ⟨IntKind.wrap .i64 (s83.n + r89), IntKind.wrap .i64 (s83.t8 + 1)⟩)
 else
  some (.inr (.inl ()))

noncomputable def mewslaw19.Far.loop0 (l : List api.Value) (s83 : mewslaw19.Far.S0) : Option (Unit ⊕ Bool) := whileO (mewslaw19.Far.body0 l) s83

noncomputable def mewslaw19.Far (l : List api.Value) : Option Bool :=
 (mewslaw19.Far.loop0 l ⟨0, 0⟩).bind fun s92 => onSum s92 (fun s68 =>
  some (decide (100 < (l.length : Int)))) fun s92x => some s92x

noncomputable def charge.Text (s_ : List UInt8) : Option api.Value :=
 some ({ Kind := 1, Text := s_, List_ := ([] : List (List UInt8)), Hash := ([] : List api.Field), ZSet := ([] : List api.Scored) } : api.Value)

structure charge.Of.S1 where
 n : Int
 t38 : Int

noncomputable def charge.Of.body1 (e : api.Entry) (s202 : charge.Of.S1) : Option (charge.Of.S1 ⊕ Int) :=
 if s202.t38 < (e.Val.List_.length : Int) then
  need (InB s202.t38 e.Val.List_.length) <|
  some (.inl ⟨IntKind.wrap .i64 (s202.n + (IntKind.wrap .i64 (16 + ((ix e.Val.List_ s202.t38).length : Int)))), IntKind.wrap .i64 (s202.t38 + 1)⟩)
 else
  some (.inr s202.n)

noncomputable def charge.Of.loop1 (e : api.Entry) (s202 : charge.Of.S1) : Option Int := whileO (charge.Of.body1 e) s202

structure charge.Of.S3 where
 n : Int
 t54 : Int

noncomputable def charge.Of.body3 (e : api.Entry) (s214 : charge.Of.S3) : Option (charge.Of.S3 ⊕ Int) :=
 if s214.t54 < (e.Val.List_.length : Int) then
  need (InB s214.t54 e.Val.List_.length) <|
  some (.inl ⟨IntKind.wrap .i64 (s214.n + (IntKind.wrap .i64 (24 + ((ix e.Val.List_ s214.t54).length : Int)))), IntKind.wrap .i64 (s214.t54 + 1)⟩)
 else
  some (.inr s214.n)

noncomputable def charge.Of.loop3 (e : api.Entry) (s214 : charge.Of.S3) : Option Int := whileO (charge.Of.body3 e) s214

structure charge.Of.S5 where
 n : Int
 t70 : Int

noncomputable def charge.Of.body5 (e : api.Entry) (s228 : charge.Of.S5) : Option (charge.Of.S5 ⊕ Int) :=
 if s228.t70 < (e.Val.Hash.length : Int) then
  need (InB s228.t70 e.Val.Hash.length) <|
  some (.inl ⟨IntKind.wrap .i64 (s228.n + (IntKind.wrap .i64 ((IntKind.wrap .i64 (32 + ((ix e.Val.Hash s228.t70).Key.length : Int))) + ((ix e.Val.Hash s228.t70).Val.length : Int)))), IntKind.wrap .i64 (s228.t70 + 1)⟩)
 else
  some (.inr s228.n)

noncomputable def charge.Of.loop5 (e : api.Entry) (s228 : charge.Of.S5) : Option Int := whileO (charge.Of.body5 e) s228

structure charge.Of.S7 where
 n : Int
 t91 : Int

noncomputable def charge.Of.body7 (e : api.Entry) (s243 : charge.Of.S7) : Option (charge.Of.S7 ⊕ Int) :=
 if s243.t91 < (e.Val.ZSet.length : Int) then
  need (InB s243.t91 e.Val.ZSet.length) <|
  some (.inl ⟨IntKind.wrap .i64 (s243.n + (IntKind.wrap .i64 (40 + ((ix e.Val.ZSet s243.t91).Member.length : Int)))), IntKind.wrap .i64 (s243.t91 + 1)⟩)
 else
  some (.inr s243.n)

noncomputable def charge.Of.loop7 (e : api.Entry) (s243 : charge.Of.S7) : Option Int := whileO (charge.Of.body7 e) s243

noncomputable def charge.Of (e : api.Entry) : Option Int :=
 letO (
  if e.At = 0 then
   IntKind.wrap .i64 (56 + (e.Key.length : Int))
  else
   IntKind.wrap .i64 ((IntKind.wrap .i64 (56 + (e.Key.length : Int))) + 16)) fun s130 =>
 (
  if e.Val.Kind = 1 then
   some (IntKind.wrap .i64 (s130 + (e.Val.Text.length : Int)))
  else
   if e.Val.Kind = 2 then
    charge.Of.loop1 e ⟨s130, 0⟩
   else
    if e.Val.Kind = 4 then
     charge.Of.loop3 e ⟨s130, 0⟩
    else
     if e.Val.Kind = 3 then
      charge.Of.loop5 e ⟨s130, 0⟩
     else
      if e.Val.Kind = 5 then
       charge.Of.loop7 e ⟨s130, 0⟩
      else
       some s130).bind fun s193 =>
 some s193

structure charge.All.S0 where
 n : Int
 t8 : Int

noncomputable def charge.All.body0 (l : List api.Entry) (s71 : charge.All.S0) : Option (charge.All.S0 ⊕ Int) :=
 if s71.t8 < (l.length : Int) then
  need (InB s71.t8 l.length) <|
  (charge.Of (ix l s71.t8)).bind fun r77 =>
  some (.inl ⟨IntKind.wrap .i64 (s71.n + r77), IntKind.wrap .i64 (s71.t8 + 1)⟩)
 else
  some (.inr s71.n)

noncomputable def charge.All.loop0 (l : List api.Entry) (s71 : charge.All.S0) : Option Int := whileO (charge.All.body0 l) s71

noncomputable def charge.All (l : List api.Entry) : Option Int :=
 (charge.All.loop0 l ⟨0, 0⟩).bind fun s58 =>
 some s58

noncomputable def slices.Clone_string (s : List (List UInt8)) : Option (List (List UInt8)) :=
 need ((([] : List (List UInt8)).length + s.length) * 16 ≤ 140737488355328) <|
 some s

noncomputable def slices.Sort_string (x : List (List UInt8)) : Option (List (List UInt8)) :=
 need (x.length < 4611686018427387904) <|
 some (x.mergeSort fun a b => decide (a ≤ b))

noncomputable def slices.Compact_string (x : List (List UInt8)) : Option (List (List UInt8)) :=
 need (x.length < 4611686018427387904) <|
 some (Go.Lib.compact x)

noncomputable def slices.Clip_string (s_ : List (List UInt8)) : Option (List (List UInt8)) :=
 need (InR 0 (s_.length : Int) s_.length) <|
 some (sub s_ 0 (s_.length : Int))

noncomputable def charge.Set (l : List (List UInt8)) : Option api.Value :=
 if (l.length : Int) = 0 then
  some ({ Kind := 0, Text := ([] : List UInt8), List_ := ([] : List (List UInt8)), Hash := ([] : List api.Field), ZSet := ([] : List api.Scored) } : api.Value)
 else
  (slices.Clone_string l).bind fun r10 =>
  (slices.Sort_string r10).bind fun r12 =>
  (slices.Compact_string r12).bind fun r13 =>
  (slices.Clip_string r13).bind fun r15 =>
  some ({ Kind := 4, Text := ([] : List UInt8), List_ := r15, Hash := ([] : List api.Field), ZSet := ([] : List api.Scored) } : api.Value)

noncomputable def charge.May_1 (i : Int) (k_ : Int) (a2_ : api.Value) : Option Bool :=
 need (InB i a2_.List_.length) <|
 need (InB k_ a2_.List_.length) <|
 some (strLt (ix a2_.List_ i) (ix a2_.List_ k_))

structure charge.rises_charge_May_1.S0 where
 i : Int

noncomputable def charge.rises_charge_May_1.body0 (n_ : Int) (b0_ : api.Value) (s61 : charge.rises_charge_May_1.S0) : Option (charge.rises_charge_May_1.S0 ⊕ (Unit ⊕ Bool)) :=
 if s61.i < n_ then
  (charge.May_1 (IntKind.wrap .i64 (s61.i - 1)) s61.i b0_).bind fun r65 =>
  if (!r65) = true then
   some (.inr (.inr false))
  else
   some (.inl ⟨IntKind.wrap .i64 (s61.i + 1)⟩)
 else
  some (.inr (.inl ()))

noncomputable def charge.rises_charge_May_1.loop0 (n_ : Int) (b0_ : api.Value) (s61 : charge.rises_charge_May_1.S0) : Option (Unit ⊕ Bool) := whileO (charge.rises_charge_May_1.body0 n_ b0_) s61

noncomputable def charge.rises_charge_May_1 (n_ : Int) (b0_ : api.Value) : Option Bool :=
 (charge.rises_charge_May_1.loop0 n_ b0_ ⟨1⟩).bind fun s68 => onSum s68 (fun s50 =>
  some true) fun s68x => some s68x

noncomputable def charge.May_2 (i : Int) (k_ : Int) (a2_ : api.Value) : Option Bool :=
 need (InB i a2_.Hash.length) <|
 need (InB k_ a2_.Hash.length) <|
 some (strLt (ix a2_.Hash i).Key (ix a2_.Hash k_).Key)

structure charge.rises_charge_May_2.S0 where
 i : Int

noncomputable def charge.rises_charge_May_2.body0 (n_ : Int) (b0_ : api.Value) (s61 : charge.rises_charge_May_2.S0) : Option (charge.rises_charge_May_2.S0 ⊕ (Unit ⊕ Bool)) :=
 if s61.i < n_ then
  (charge.May_2 (IntKind.wrap .i64 (s61.i - 1)) s61.i b0_).bind fun r65 =>
  if (!r65) = true then
   some (.inr (.inr false))
  else
   some (.inl ⟨IntKind.wrap .i64 (s61.i + 1)⟩)
 else
  some (.inr (.inl ()))

noncomputable def charge.rises_charge_May_2.loop0 (n_ : Int) (b0_ : api.Value) (s61 : charge.rises_charge_May_2.S0) : Option (Unit ⊕ Bool) := whileO (charge.rises_charge_May_2.body0 n_ b0_) s61

noncomputable def charge.rises_charge_May_2 (n_ : Int) (b0_ : api.Value) : Option Bool :=
 (charge.rises_charge_May_2.loop0 n_ b0_ ⟨1⟩).bind fun s68 => onSum s68 (fun s50 =>
  some true) fun s68x => some s68x

noncomputable def charge.less (a : api.Scored) (b : api.Scored) : Option Bool :=
 letO (
  if a.Score < b.Score then
   true
  else
   if a.Score = b.Score then
    strLt a.Member b.Member
   else
    false) fun s14 =>
 some s14

noncomputable def charge.May_3 (i : Int) (k_ : Int) (a2_ : api.Value) : Option Bool :=
 need (InB i a2_.ZSet.length) <|
 need (InB k_ a2_.ZSet.length) <|
 (charge.less (ix a2_.ZSet i) (ix a2_.ZSet k_)).bind fun r6 =>
 some r6

structure charge.rises_charge_May_3.S0 where
 i : Int

noncomputable def charge.rises_charge_May_3.body0 (n_ : Int) (b0_ : api.Value) (s61 : charge.rises_charge_May_3.S0) : Option (charge.rises_charge_May_3.S0 ⊕ (Unit ⊕ Bool)) :=
 if s61.i < n_ then
  (charge.May_3 (IntKind.wrap .i64 (s61.i - 1)) s61.i b0_).bind fun r65 =>
  if (!r65) = true then
   some (.inr (.inr false))
  else
   some (.inl ⟨IntKind.wrap .i64 (s61.i + 1)⟩)
 else
  some (.inr (.inl ()))

noncomputable def charge.rises_charge_May_3.loop0 (n_ : Int) (b0_ : api.Value) (s61 : charge.rises_charge_May_3.S0) : Option (Unit ⊕ Bool) := whileO (charge.rises_charge_May_3.body0 n_ b0_) s61

noncomputable def charge.rises_charge_May_3 (n_ : Int) (b0_ : api.Value) : Option Bool :=
 (charge.rises_charge_May_3.loop0 n_ b0_ ⟨1⟩).bind fun s68 => onSum s68 (fun s50 =>
  some true) fun s68x => some s68x

structure charge.once.S0 where
 t8 : Int
 v : List (List UInt8)

noncomputable def charge.once.body0 (l : List api.Scored) (s97 : charge.once.S0) : Option (charge.once.S0 ⊕ (List (List UInt8))) :=
 if s97.t8 < (l.length : Int) then
  need (InB s97.t8 l.length) <|
  need ((s97.v.length + [(ix l s97.t8).Member].length) * 16 ≤ 140737488355328) <|
  some (.inl ⟨IntKind.wrap .i64 (s97.t8 + 1), s97.v ++ [(ix l s97.t8).Member]⟩)
 else
  some (.inr s97.v)

noncomputable def charge.once.loop0 (l : List api.Scored) (s97 : charge.once.S0) : Option (List (List UInt8)) := whileO (charge.once.body0 l) s97

noncomputable def charge.once (l : List api.Scored) : Option Bool :=
 (charge.once.loop0 l ⟨0, ([] : List (List UInt8))⟩).bind fun s80 =>
 (slices.Sort_string s80).bind fun r108 =>
 (slices.Compact_string r108).bind fun r109 =>
 some (decide ((r109.length : Int) = (l.length : Int)))

structure slices.Equal_string.S0 where
 t13 : Int

noncomputable def slices.Equal_string.body0 (s1_ : List (List UInt8)) (s2_ : List (List UInt8)) (s73 : slices.Equal_string.S0) : Option (slices.Equal_string.S0 ⊕ (Unit ⊕ Bool)) :=
 if s73.t13 < (s1_.length : Int) then
  need (InB s73.t13 s1_.length) <|
  need (InB s73.t13 s2_.length) <|
  if (ix s1_ s73.t13) = (ix s2_ s73.t13) then
   some (.inl ⟨IntKind.wrap .i64 (s73.t13 + 1)⟩)
  else
   some (.inr (.inr false))
 else
  some (.inr (.inl ()))

noncomputable def slices.Equal_string.loop0 (s1_ : List (List UInt8)) (s2_ : List (List UInt8)) (s73 : slices.Equal_string.S0) : Option (Unit ⊕ Bool) := whileO (slices.Equal_string.body0 s1_ s2_) s73

noncomputable def slices.Equal_string (s1_ : List (List UInt8)) (s2_ : List (List UInt8)) : Option Bool :=
 if (s1_.length : Int) = (s2_.length : Int) then
  (slices.Equal_string.loop0 s1_ s2_ ⟨0⟩).bind fun s81 => onSum s81 (fun s60 =>
   some true) fun s81x => some s81x
 else
  some false

structure slices.Equal_api_Field.S0 where
 t13 : Int

noncomputable def slices.Equal_api_Field.body0 (s1_ : List api.Field) (s2_ : List api.Field) (s73 : slices.Equal_api_Field.S0) : Option (slices.Equal_api_Field.S0 ⊕ (Unit ⊕ Bool)) :=
 if s73.t13 < (s1_.length : Int) then
  need (InB s73.t13 s1_.length) <|
  need (InB s73.t13 s2_.length) <|
  if (ix s1_ s73.t13) = (ix s2_ s73.t13) then
   some (.inl ⟨IntKind.wrap .i64 (s73.t13 + 1)⟩)
  else
   some (.inr (.inr false))
 else
  some (.inr (.inl ()))

noncomputable def slices.Equal_api_Field.loop0 (s1_ : List api.Field) (s2_ : List api.Field) (s73 : slices.Equal_api_Field.S0) : Option (Unit ⊕ Bool) := whileO (slices.Equal_api_Field.body0 s1_ s2_) s73

noncomputable def slices.Equal_api_Field (s1_ : List api.Field) (s2_ : List api.Field) : Option Bool :=
 if (s1_.length : Int) = (s2_.length : Int) then
  (slices.Equal_api_Field.loop0 s1_ s2_ ⟨0⟩).bind fun s81 => onSum s81 (fun s60 =>
   some true) fun s81x => some s81x
 else
  some false

structure slices.Equal_api_Scored.S0 where
 t13 : Int

noncomputable def slices.Equal_api_Scored.body0 (s1_ : List api.Scored) (s2_ : List api.Scored) (s73 : slices.Equal_api_Scored.S0) : Option (slices.Equal_api_Scored.S0 ⊕ (Unit ⊕ Bool)) :=
 if s73.t13 < (s1_.length : Int) then
  need (InB s73.t13 s1_.length) <|
  need (InB s73.t13 s2_.length) <|
  if (ix s1_ s73.t13) = (ix s2_ s73.t13) then
   some (.inl ⟨IntKind.wrap .i64 (s73.t13 + 1)⟩)
  else
   some (.inr (.inr false))
 else
  some (.inr (.inl ()))

noncomputable def slices.Equal_api_Scored.loop0 (s1_ : List api.Scored) (s2_ : List api.Scored) (s73 : slices.Equal_api_Scored.S0) : Option (Unit ⊕ Bool) := whileO (slices.Equal_api_Scored.body0 s1_ s2_) s73

noncomputable def slices.Equal_api_Scored (s1_ : List api.Scored) (s2_ : List api.Scored) : Option Bool :=
 if (s1_.length : Int) = (s2_.length : Int) then
  (slices.Equal_api_Scored.loop0 s1_ s2_ ⟨0⟩).bind fun s81 => onSum s81 (fun s60 =>
   some true) fun s81x => some s81x
 else
  some false

noncomputable def charge.Same (a : api.Value) (b : api.Value) : Option Bool :=
 (
  if a.Kind = b.Kind then
   if a.Text = b.Text then
    (slices.Equal_string a.List_ b.List_).bind fun r34 =>
    if r34 = true then
     (slices.Equal_api_Field a.Hash b.Hash).bind fun r36 =>
     if r36 = true then
      (slices.Equal_api_Scored a.ZSet b.ZSet).bind fun r38 =>
      some r38
     else
      some false
    else
     some false
   else
    some false
  else
   some false).bind fun s29 =>
 some s29

noncomputable def charge.May (v_ : api.Value) : Option Bool :=
 (
  if v_.Kind = 1 then
   some (true, ([] : List UInt8), v_.List_, v_.Hash, v_.ZSet)
  else
   if v_.Kind = 2 then
    some (decide (0 < (v_.List_.length : Int)), v_.Text, ([] : List (List UInt8)), v_.Hash, v_.ZSet)
   else
    if v_.Kind = 4 then
     if 0 < (v_.List_.length : Int) then
      (charge.rises_charge_May_1 (v_.List_.length : Int) v_).bind fun r58 =>
      some (r58, v_.Text, ([] : List (List UInt8)), v_.Hash, v_.ZSet)
     else
      some (false, v_.Text, ([] : List (List UInt8)), v_.Hash, v_.ZSet)
    else
     if v_.Kind = 3 then
      if 0 < (v_.Hash.length : Int) then
       (charge.rises_charge_May_2 (v_.Hash.length : Int) v_).bind fun r60 =>
       some (r60, v_.Text, v_.List_, ([] : List api.Field), v_.ZSet)
      else
       some (false, v_.Text, v_.List_, ([] : List api.Field), v_.ZSet)
     else
      if v_.Kind = 5 then
       if 0 < (v_.ZSet.length : Int) then
        (charge.rises_charge_May_3 (v_.ZSet.length : Int) v_).bind fun r62 =>
        if r62 = true then
         (charge.once v_.ZSet).bind fun r64 =>
         some (r64, v_.Text, v_.List_, v_.Hash, ([] : List api.Scored))
        else
         some (false, v_.Text, v_.List_, v_.Hash, ([] : List api.Scored))
       else
        some (false, v_.Text, v_.List_, v_.Hash, ([] : List api.Scored))
      else
       some (false, v_.Text, v_.List_, v_.Hash, v_.ZSet)).bind fun s54 =>
 (
  if s54.1 = true then
   (charge.Same ({ Kind := 0, Text := s54.2.1, List_ := s54.2.2.1, Hash := s54.2.2.2.1, ZSet := s54.2.2.2.2 } : api.Value) ({ Kind := 0, Text := ([] : List UInt8), List_ := ([] : List (List UInt8)), Hash := ([] : List api.Field), ZSet := ([] : List api.Scored) } : api.Value)).bind fun r76 =>
   some r76
  else
   some false).bind fun s72 =>
 some s72

noncomputable def charge.Name (kind : Int) : Option (List UInt8) :=
 letO (
  if kind < 0 then
   true
  else
   decide (6 ≤ kind)) fun s13 =>
 if s13 = true then
  some ([] : List UInt8)
 else
  need (InB kind 6) <|
  need (([[110, 111, 110, 101], [115, 116, 114, 105, 110, 103], [108, 105, 115, 116], [104, 97, 115, 104], [115, 101, 116], [122, 115, 101, 116]] : List (List UInt8)).length = 6) <|
  need (InB kind ([[110, 111, 110, 101], [115, 116, 114, 105, 110, 103], [108, 105, 115, 116], [104, 97, 115, 104], [115, 101, 116], [122, 115, 101, 116]] : List (List UInt8)).length) <|
  some (ix ([[110, 111, 110, 101], [115, 116, 114, 105, 110, 103], [108, 105, 115, 116], [104, 97, 115, 104], [115, 101, 116], [122, 115, 101, 116]] : List (List UInt8)) kind)

noncomputable def mewslaw19.alive  : Option Bool :=
 (charge.Text [98, 99]).bind fun r27 =>
 (
  (charge.Of ({ Key := [97], Val := r27, At := 0 } : api.Entry)).bind fun r43 =>
  if r43 = 59 then
   (charge.Of ({ Key := [97], Val := r27, At := 7 } : api.Entry)).bind fun r45 =>
   if r45 = 75 then
    (charge.All [({ Key := [97], Val := r27, At := 0 } : api.Entry), ({ Key := [97], Val := r27, At := 7 } : api.Entry)]).bind fun r47 =>
    if r47 = 134 then
     (charge.Set [[98], [97], [98]]).bind fun r49 =>
     (charge.May r49).bind fun r50 =>
     if r50 = true then
      (charge.Name 5).bind fun r52 =>
      some (decide (r52 = [122, 115, 101, 116]))
     else
      some false
    else
     some false
   else
    some false
  else
   some false).bind fun s40 =>
 some s40

noncomputable def slices.Clone_api_Field (s : List api.Field) : Option (List api.Field) :=
 need ((([] : List api.Field).length + s.length) * 32 ≤ 140737488355328) <|
 some s

structure slices.Reverse_api_Field_v.S0 where
 i : Int
 j : Int
 v : List api.Field

noncomputable def slices.Reverse_api_Field_v.body0  (s54 : slices.Reverse_api_Field_v.S0) : Option (slices.Reverse_api_Field_v.S0 ⊕ (List api.Field)) :=
 if s54.i < s54.j then
  need (InB s54.j s54.v.length) <|
  need (InB s54.j s54.v.length) <|
  need (InB s54.i s54.v.length) <|
  need (InB s54.i s54.v.length) <|
  need (InB s54.i s54.v.length) <|
  need (InB s54.i s54.v.length) <|
  need (InB s54.j (upd s54.v s54.i (ix s54.v s54.j)).length) <|
  need (InB s54.j (upd s54.v s54.i (ix s54.v s54.j)).length) <|
  some (.inl ⟨IntKind.wrap .i64 (s54.i + 1), IntKind.wrap .i64 (s54.j - 1), upd (upd s54.v s54.i (ix s54.v s54.j)) s54.j (ix s54.v s54.i)⟩)
 else
  some (.inr s54.v)

noncomputable def slices.Reverse_api_Field_v.loop0  (s54 : slices.Reverse_api_Field_v.S0) : Option (List api.Field) := whileO (slices.Reverse_api_Field_v.body0 ) s54

noncomputable def slices.Reverse_api_Field_v (s_ : List api.Field) : Option (List api.Field) :=
 slices.Reverse_api_Field_v.loop0  ⟨0, IntKind.wrap .i64 ((s_.length : Int) - 1), s_⟩

noncomputable def strings.Compare (a : List UInt8) (b : List UInt8) : Option Int :=
 some (Go.Lib.compareBytes a b)

noncomputable def charge.Hash_1 (a : api.Field) (b : api.Field) : Option Int :=
 (strings.Compare a.Key b.Key).bind fun r6 =>
 some r6

structure slices.insertionSortCmpFunc_api_Field_v_charge_Hash_1.S0 where
 i : Int
 v : List api.Field

structure slices.insertionSortCmpFunc_api_Field_v_charge_Hash_1.S2 where
 j : Int
 v : List api.Field

noncomputable def slices.insertionSortCmpFunc_api_Field_v_charge_Hash_1.body2 (a : Int) (s944 : slices.insertionSortCmpFunc_api_Field_v_charge_Hash_1.S2) : Option (slices.insertionSortCmpFunc_api_Field_v_charge_Hash_1.S2 ⊕ (List api.Field)) :=
 (
  if a < s944.j then
   need (InB s944.j s944.v.length) <|
   need (InB s944.j s944.v.length) <|
   need (InB (IntKind.wrap .i64 (s944.j - 1)) s944.v.length) <|
   need (InB (IntKind.wrap .i64 (s944.j - 1)) s944.v.length) <|
   (charge.Hash_1 (ix s944.v s944.j) (ix s944.v (IntKind.wrap .i64 (s944.j - 1)))).bind fun r962 =>
   some (decide (r962 < 0))
  else
   some false).bind fun s954 =>
 if s954 = true then
  need (InB (IntKind.wrap .i64 (s944.j - 1)) s944.v.length) <|
  need (InB (IntKind.wrap .i64 (s944.j - 1)) s944.v.length) <|
  need (InB s944.j s944.v.length) <|
  need (InB s944.j s944.v.length) <|
  need (InB s944.j s944.v.length) <|
  need (InB s944.j s944.v.length) <|
  need (InB (IntKind.wrap .i64 (s944.j - 1)) (upd s944.v s944.j (ix s944.v (IntKind.wrap .i64 (s944.j - 1)))).length) <|
  need (InB (IntKind.wrap .i64 (s944.j - 1)) (upd s944.v s944.j (ix s944.v (IntKind.wrap .i64 (s944.j - 1)))).length) <|
  some (.inl ⟨IntKind.wrap .i64 (s944.j - 1), upd (upd s944.v s944.j (ix s944.v (IntKind.wrap .i64 (s944.j - 1)))) (IntKind.wrap .i64 (s944.j - 1)) (ix s944.v s944.j)⟩)
 else
  some (.inr s944.v)

noncomputable def slices.insertionSortCmpFunc_api_Field_v_charge_Hash_1.loop2 (a : Int) (s944 : slices.insertionSortCmpFunc_api_Field_v_charge_Hash_1.S2) : Option (List api.Field) := whileO (slices.insertionSortCmpFunc_api_Field_v_charge_Hash_1.body2 a) s944

noncomputable def slices.insertionSortCmpFunc_api_Field_v_charge_Hash_1.body0 (b : Int) (a : Int) (s809 : slices.insertionSortCmpFunc_api_Field_v_charge_Hash_1.S0) : Option (slices.insertionSortCmpFunc_api_Field_v_charge_Hash_1.S0 ⊕ (List api.Field)) :=
 if s809.i < b then
  (slices.insertionSortCmpFunc_api_Field_v_charge_Hash_1.loop2 a ⟨s809.i, s809.v⟩).bind fun s891 =>
  some (.inl ⟨IntKind.wrap .i64 (s809.i + 1), s891⟩)
 else
  some (.inr s809.v)

noncomputable def slices.insertionSortCmpFunc_api_Field_v_charge_Hash_1.loop0 (b : Int) (a : Int) (s809 : slices.insertionSortCmpFunc_api_Field_v_charge_Hash_1.S0) : Option (List api.Field) := whileO (slices.insertionSortCmpFunc_api_Field_v_charge_Hash_1.body0 b a) s809

noncomputable def slices.insertionSortCmpFunc_api_Field_v_charge_Hash_1 (data : List api.Field) (a : Int) (b : Int) : Option (List api.Field) :=
 slices.insertionSortCmpFunc_api_Field_v_charge_Hash_1.loop0 b a ⟨IntKind.wrap .i64 (a + 1), data⟩

structure slices.swapRangeCmpFunc_api_Field_v_charge_Hash_1.S0 where
 i : Int
 v : List api.Field

noncomputable def slices.swapRangeCmpFunc_api_Field_v_charge_Hash_1.body0 (n_ : Int) (b : Int) (a : Int) (s54 : slices.swapRangeCmpFunc_api_Field_v_charge_Hash_1.S0) : Option (slices.swapRangeCmpFunc_api_Field_v_charge_Hash_1.S0 ⊕ (List api.Field)) :=
 if s54.i < n_ then
  need (InB (IntKind.wrap .i64 (b + s54.i)) s54.v.length) <|
  need (InB (IntKind.wrap .i64 (b + s54.i)) s54.v.length) <|
  need (InB (IntKind.wrap .i64 (a + s54.i)) s54.v.length) <|
  need (InB (IntKind.wrap .i64 (a + s54.i)) s54.v.length) <|
  need (InB (IntKind.wrap .i64 (a + s54.i)) s54.v.length) <|
  need (InB (IntKind.wrap .i64 (a + s54.i)) s54.v.length) <|
  need (InB (IntKind.wrap .i64 (b + s54.i)) (upd s54.v (IntKind.wrap .i64 (a + s54.i)) (ix s54.v (IntKind.wrap .i64 (b + s54.i)))).length) <|
  need (InB (IntKind.wrap .i64 (b + s54.i)) (upd s54.v (IntKind.wrap .i64 (a + s54.i)) (ix s54.v (IntKind.wrap .i64 (b + s54.i)))).length) <|
  some (.inl ⟨IntKind.wrap .i64 (s54.i + 1), upd (upd s54.v (IntKind.wrap .i64 (a + s54.i)) (ix s54.v (IntKind.wrap .i64 (b + s54.i)))) (IntKind.wrap .i64 (b + s54.i)) (ix s54.v (IntKind.wrap .i64 (a + s54.i)))⟩)
 else
  some (.inr s54.v)

noncomputable def slices.swapRangeCmpFunc_api_Field_v_charge_Hash_1.loop0 (n_ : Int) (b : Int) (a : Int) (s54 : slices.swapRangeCmpFunc_api_Field_v_charge_Hash_1.S0) : Option (List api.Field) := whileO (slices.swapRangeCmpFunc_api_Field_v_charge_Hash_1.body0 n_ b a) s54

noncomputable def slices.swapRangeCmpFunc_api_Field_v_charge_Hash_1 (data : List api.Field) (a : Int) (b : Int) (n_ : Int) : Option (List api.Field) :=
 slices.swapRangeCmpFunc_api_Field_v_charge_Hash_1.loop0 n_ b a ⟨0, data⟩

structure slices.rotateCmpFunc_api_Field_v_charge_Hash_1.S0 where
 i : Int
 j : Int
 v : List api.Field

noncomputable def slices.rotateCmpFunc_api_Field_v_charge_Hash_1.body0 (m : Int) (s76 : slices.rotateCmpFunc_api_Field_v_charge_Hash_1.S0) : Option (slices.rotateCmpFunc_api_Field_v_charge_Hash_1.S0 ⊕ (Int × (List api.Field))) :=
 if s76.i = s76.j then
  some (.inr (s76.i, s76.v))
 else
  if s76.j < s76.i then
   (slices.swapRangeCmpFunc_api_Field_v_charge_Hash_1 s76.v (IntKind.wrap .i64 (m - s76.i)) m s76.j).bind fun r80 =>
   some (.inl ⟨IntKind.wrap .i64 (s76.i - s76.j), s76.j, r80⟩)
  else
   (slices.swapRangeCmpFunc_api_Field_v_charge_Hash_1 s76.v (IntKind.wrap .i64 (m - s76.i)) (IntKind.wrap .i64 ((IntKind.wrap .i64 (m + s76.j)) - s76.i)) s76.i).bind fun r81 =>
   some (.inl ⟨s76.i, IntKind.wrap .i64 (s76.j - s76.i), r81⟩)

noncomputable def slices.rotateCmpFunc_api_Field_v_charge_Hash_1.loop0 (m : Int) (s76 : slices.rotateCmpFunc_api_Field_v_charge_Hash_1.S0) : Option (Int × (List api.Field)) := whileO (slices.rotateCmpFunc_api_Field_v_charge_Hash_1.body0 m) s76

noncomputable def slices.rotateCmpFunc_api_Field_v_charge_Hash_1 (data : List api.Field) (a : Int) (m : Int) (b : Int) : Option (List api.Field) :=
 (slices.rotateCmpFunc_api_Field_v_charge_Hash_1.loop0 m ⟨IntKind.wrap .i64 (m - a), IntKind.wrap .i64 (b - m), data⟩).bind fun s62 =>
 (slices.swapRangeCmpFunc_api_Field_v_charge_Hash_1 s62.2 (IntKind.wrap .i64 (m - s62.1)) m s62.1).bind fun r84 =>
 some r84

structure slices.symMergeCmpFunc_api_Field_v_charge_Hash_1.S0 where
 i : Int
 j : Int

noncomputable def slices.symMergeCmpFunc_api_Field_v_charge_Hash_1.body0 (data : List api.Field) (a : Int) (s434 : slices.symMergeCmpFunc_api_Field_v_charge_Hash_1.S0) : Option (slices.symMergeCmpFunc_api_Field_v_charge_Hash_1.S0 ⊕ Int) :=
 if s434.i < s434.j then
  need (InB (IntKind.wrap .i64 ((IntKind.wrap .u64 (IntKind.wrap .i64 (s434.i + s434.j))) / 2 ^ min (Int.toNat 1) (IntKind.bits .u64))) data.length) <|
  need (InB (IntKind.wrap .i64 ((IntKind.wrap .u64 (IntKind.wrap .i64 (s434.i + s434.j))) / 2 ^ min (Int.toNat 1) (IntKind.bits .u64))) data.length) <|
  need (InB a data.length) <|
  need (InB a data.length) <|
  (charge.Hash_1 (ix data (IntKind.wrap .i64 ((IntKind.wrap .u64 (IntKind.wrap .i64 (s434.i + s434.j))) / 2 ^ min (Int.toNat 1) (IntKind.bits .u64)))) (ix data a)).bind fun r442 =>
  if r442 < 0 then
   letO (IntKind.wrap .i64 ((IntKind.wrap .i64 ((IntKind.wrap .u64 (IntKind.wrap .i64 (s434.i + s434.j))) / 2 ^ min (Int.toNat 1) (IntKind.bits .u64))) + 1)) fun x443 =>
   some (.inl ⟨x443, s434.j⟩)
  else
   some (.inl ⟨s434.i, IntKind.wrap .i64 ((IntKind.wrap .u64 (IntKind.wrap .i64 (s434.i + s434.j))) / 2 ^ min (Int.toNat 1) (IntKind.bits .u64))⟩)
 else
  some (.inr s434.i)

noncomputable def slices.symMergeCmpFunc_api_Field_v_charge_Hash_1.loop0 (data : List api.Field) (a : Int) (s434 : slices.symMergeCmpFunc_api_Field_v_charge_Hash_1.S0) : Option Int := whileO (slices.symMergeCmpFunc_api_Field_v_charge_Hash_1.body0 data a) s434

structure slices.symMergeCmpFunc_api_Field_v_charge_Hash_1.S2 where
 k : Int
 v : List api.Field

noncomputable def slices.symMergeCmpFunc_api_Field_v_charge_Hash_1.body2 (s413 : Int) (s502 : slices.symMergeCmpFunc_api_Field_v_charge_Hash_1.S2) : Option (slices.symMergeCmpFunc_api_Field_v_charge_Hash_1.S2 ⊕ (List api.Field)) :=
 if s502.k < (IntKind.wrap .i64 (s413 - 1)) then
  need (InB (IntKind.wrap .i64 (s502.k + 1)) s502.v.length) <|
  need (InB (IntKind.wrap .i64 (s502.k + 1)) s502.v.length) <|
  need (InB s502.k s502.v.length) <|
  need (InB s502.k s502.v.length) <|
  need (InB s502.k s502.v.length) <|
  need (InB s502.k s502.v.length) <|
  need (InB (IntKind.wrap .i64 (s502.k + 1)) (upd s502.v s502.k (ix s502.v (IntKind.wrap .i64 (s502.k + 1)))).length) <|
  need (InB (IntKind.wrap .i64 (s502.k + 1)) (upd s502.v s502.k (ix s502.v (IntKind.wrap .i64 (s502.k + 1)))).length) <|
  some (.inl ⟨IntKind.wrap .i64 (s502.k + 1), upd (upd s502.v s502.k (ix s502.v (IntKind.wrap .i64 (s502.k + 1)))) (IntKind.wrap .i64 (s502.k + 1)) (ix s502.v s502.k)⟩)
 else
  some (.inr s502.v)

noncomputable def slices.symMergeCmpFunc_api_Field_v_charge_Hash_1.loop2 (s413 : Int) (s502 : slices.symMergeCmpFunc_api_Field_v_charge_Hash_1.S2) : Option (List api.Field) := whileO (slices.symMergeCmpFunc_api_Field_v_charge_Hash_1.body2 s413) s502

structure slices.symMergeCmpFunc_api_Field_v_charge_Hash_1.S4 where
 i : Int
 j : Int

noncomputable def slices.symMergeCmpFunc_api_Field_v_charge_Hash_1.body4 (m : Int) (data : List api.Field) (s566 : slices.symMergeCmpFunc_api_Field_v_charge_Hash_1.S4) : Option (slices.symMergeCmpFunc_api_Field_v_charge_Hash_1.S4 ⊕ Int) :=
 if s566.i < s566.j then
  need (InB m data.length) <|
  need (InB m data.length) <|
  need (InB (IntKind.wrap .i64 ((IntKind.wrap .u64 (IntKind.wrap .i64 (s566.i + s566.j))) / 2 ^ min (Int.toNat 1) (IntKind.bits .u64))) data.length) <|
  need (InB (IntKind.wrap .i64 ((IntKind.wrap .u64 (IntKind.wrap .i64 (s566.i + s566.j))) / 2 ^ min (Int.toNat 1) (IntKind.bits .u64))) data.length) <|
  (charge.Hash_1 (ix data m) (ix data (IntKind.wrap .i64 ((IntKind.wrap .u64 (IntKind.wrap .i64 (s566.i + s566.j))) / 2 ^ min (Int.toNat 1) (IntKind.bits .u64))))).bind fun r574 =>
  if r574 < 0 then
   some (.inl ⟨s566.i, IntKind.wrap .i64 ((IntKind.wrap .u64 (IntKind.wrap .i64 (s566.i + s566.j))) / 2 ^ min (Int.toNat 1) (IntKind.bits .u64))⟩)
  else
   letO (IntKind.wrap .i64 ((IntKind.wrap .i64 ((IntKind.wrap .u64 (IntKind.wrap .i64 (s566.i + s566.j))) / 2 ^ min (Int.toNat 1) (IntKind.bits .u64))) + 1)) fun x575 =>
   some (.inl ⟨x575, s566.j⟩)
 else
  some (.inr s566.i)

noncomputable def slices.symMergeCmpFunc_api_Field_v_charge_Hash_1.loop4 (m : Int) (data : List api.Field) (s566 : slices.symMergeCmpFunc_api_Field_v_charge_Hash_1.S4) : Option Int := whileO (slices.symMergeCmpFunc_api_Field_v_charge_Hash_1.body4 m data) s566

structure slices.symMergeCmpFunc_api_Field_v_charge_Hash_1.S6 where
 k : Int
 v : List api.Field

noncomputable def slices.symMergeCmpFunc_api_Field_v_charge_Hash_1.body6 (s545 : Int) (s634 : slices.symMergeCmpFunc_api_Field_v_charge_Hash_1.S6) : Option (slices.symMergeCmpFunc_api_Field_v_charge_Hash_1.S6 ⊕ (List api.Field)) :=
 if s545 < s634.k then
  need (InB (IntKind.wrap .i64 (s634.k - 1)) s634.v.length) <|
  need (InB (IntKind.wrap .i64 (s634.k - 1)) s634.v.length) <|
  need (InB s634.k s634.v.length) <|
  need (InB s634.k s634.v.length) <|
  need (InB s634.k s634.v.length) <|
  need (InB s634.k s634.v.length) <|
  need (InB (IntKind.wrap .i64 (s634.k - 1)) (upd s634.v s634.k (ix s634.v (IntKind.wrap .i64 (s634.k - 1)))).length) <|
  need (InB (IntKind.wrap .i64 (s634.k - 1)) (upd s634.v s634.k (ix s634.v (IntKind.wrap .i64 (s634.k - 1)))).length) <|
  some (.inl ⟨IntKind.wrap .i64 (s634.k - 1), upd (upd s634.v s634.k (ix s634.v (IntKind.wrap .i64 (s634.k - 1)))) (IntKind.wrap .i64 (s634.k - 1)) (ix s634.v s634.k)⟩)
 else
  some (.inr s634.v)

noncomputable def slices.symMergeCmpFunc_api_Field_v_charge_Hash_1.loop6 (s545 : Int) (s634 : slices.symMergeCmpFunc_api_Field_v_charge_Hash_1.S6) : Option (List api.Field) := whileO (slices.symMergeCmpFunc_api_Field_v_charge_Hash_1.body6 s545) s634

structure slices.symMergeCmpFunc_api_Field_v_charge_Hash_1.S8 where
 start : Int
 r : Int

noncomputable def slices.symMergeCmpFunc_api_Field_v_charge_Hash_1.body8 (x647 : Int) (data : List api.Field) (s709 : slices.symMergeCmpFunc_api_Field_v_charge_Hash_1.S8) : Option (slices.symMergeCmpFunc_api_Field_v_charge_Hash_1.S8 ⊕ Int) :=
 if s709.start < s709.r then
  letO (IntKind.wrap .i64 ((IntKind.wrap .i64 (x647 - 1)) - (IntKind.wrap .i64 ((IntKind.wrap .u64 (IntKind.wrap .i64 (s709.start + s709.r))) / 2 ^ min (Int.toNat 1) (IntKind.bits .u64))))) fun x713 =>
  need (InB x713 data.length) <|
  need (InB x713 data.length) <|
  need (InB (IntKind.wrap .i64 ((IntKind.wrap .u64 (IntKind.wrap .i64 (s709.start + s709.r))) / 2 ^ min (Int.toNat 1) (IntKind.bits .u64))) data.length) <|
  need (InB (IntKind.wrap .i64 ((IntKind.wrap .u64 (IntKind.wrap .i64 (s709.start + s709.r))) / 2 ^ min (Int.toNat 1) (IntKind.bits .u64))) data.length) <|
  (charge.Hash_1 (ix data x713) (ix data (IntKind.wrap .i64 ((IntKind.wrap .u64 (IntKind.wrap .i64 (s709.start + s709.r))) / 2 ^ min (Int.toNat 1) (IntKind.bits .u64))))).bind fun r718 =>
  if r718 < 0 then
   some (.inl ⟨s709.start, IntKind.wrap .i64 ((IntKind.wrap .u64 (IntKind.wrap .i64 (s709.start + s709.r))) / 2 ^ min (Int.toNat 1) (IntKind.bits .u64))⟩)
  else
   letO (IntKind.wrap .i64 ((IntKind.wrap .i64 ((IntKind.wrap .u64 (IntKind.wrap .i64 (s709.start + s709.r))) / 2 ^ min (Int.toNat 1) (IntKind.bits .u64))) + 1)) fun x719 =>
   some (.inl ⟨x719, s709.r⟩)
 else
  some (.inr s709.start)

noncomputable def slices.symMergeCmpFunc_api_Field_v_charge_Hash_1.loop8 (x647 : Int) (data : List api.Field) (s709 : slices.symMergeCmpFunc_api_Field_v_charge_Hash_1.S8) : Option Int := whileO (slices.symMergeCmpFunc_api_Field_v_charge_Hash_1.body8 x647 data) s709

noncomputable def slices.symMergeCmpFunc_api_Field_v_charge_Hash_1.rec : Nat → (List api.Field) → Int → Int → Int → Option (List api.Field)
 | 0, _, _, _, _ => none
 | kk + 1, data, a, m, b =>
  if (IntKind.wrap .i64 (m - a)) = 1 then
   (slices.symMergeCmpFunc_api_Field_v_charge_Hash_1.loop0 data a ⟨m, b⟩).bind fun s413 =>
   (slices.symMergeCmpFunc_api_Field_v_charge_Hash_1.loop2 s413 ⟨a, data⟩).bind fun s479 =>
   some s479
  else
   if (IntKind.wrap .i64 (b - m)) = 1 then
    (slices.symMergeCmpFunc_api_Field_v_charge_Hash_1.loop4 m data ⟨a, m⟩).bind fun s545 =>
    (slices.symMergeCmpFunc_api_Field_v_charge_Hash_1.loop6 s545 ⟨m, data⟩).bind fun s611 =>
    some s611
   else
    letO (IntKind.wrap .i64 ((IntKind.wrap .i64 ((IntKind.wrap .u64 (IntKind.wrap .i64 (a + b))) / 2 ^ min (Int.toNat 1) (IntKind.bits .u64))) + m)) fun x647 =>
    letO (
     if (IntKind.wrap .i64 ((IntKind.wrap .u64 (IntKind.wrap .i64 (a + b))) / 2 ^ min (Int.toNat 1) (IntKind.bits .u64))) < m then
      (IntKind.wrap .i64 (x647 - b), IntKind.wrap .i64 ((IntKind.wrap .u64 (IntKind.wrap .i64 (a + b))) / 2 ^ min (Int.toNat 1) (IntKind.bits .u64)))
     else
      (a, m)) fun s649 =>
    (slices.symMergeCmpFunc_api_Field_v_charge_Hash_1.loop8 x647 data ⟨s649.1, s649.2⟩).bind fun s686 =>
    (
     letO (
      if s686 < m then
       decide (m < (IntKind.wrap .i64 (x647 - s686)))
      else
       false) fun s733 =>
     if s733 = true then
      (slices.rotateCmpFunc_api_Field_v_charge_Hash_1 data s686 m (IntKind.wrap .i64 (x647 - s686))).bind fun r737 =>
      some r737
     else
      some data).bind fun s729 =>
    (
     letO (
      if a < s686 then
       decide (s686 < (IntKind.wrap .i64 ((IntKind.wrap .u64 (IntKind.wrap .i64 (a + b))) / 2 ^ min (Int.toNat 1) (IntKind.bits .u64))))
      else
       false) fun s750 =>
     if s750 = true then
      (slices.symMergeCmpFunc_api_Field_v_charge_Hash_1.rec kk s729 a s686 (IntKind.wrap .i64 ((IntKind.wrap .u64 (IntKind.wrap .i64 (a + b))) / 2 ^ min (Int.toNat 1) (IntKind.bits .u64)))).bind fun r754 =>
      some r754
     else
      some s729).bind fun s746 =>
    letO (
     if (IntKind.wrap .i64 ((IntKind.wrap .u64 (IntKind.wrap .i64 (a + b))) / 2 ^ min (Int.toNat 1) (IntKind.bits .u64))) < (IntKind.wrap .i64 (x647 - s686)) then
      decide ((IntKind.wrap .i64 (x647 - s686)) < b)
     else
      false) fun s757 =>
    if s757 = true then
     (slices.symMergeCmpFunc_api_Field_v_charge_Hash_1.rec kk s746 (IntKind.wrap .i64 ((IntKind.wrap .u64 (IntKind.wrap .i64 (a + b))) / 2 ^ min (Int.toNat 1) (IntKind.bits .u64))) (IntKind.wrap .i64 (x647 - s686)) b).bind fun r761 =>
     some r761
    else
     some s746

noncomputable def slices.symMergeCmpFunc_api_Field_v_charge_Hash_1 (data : List api.Field) (a : Int) (m : Int) (b : Int) : Option (List api.Field) := fixO fun kk => slices.symMergeCmpFunc_api_Field_v_charge_Hash_1.rec kk data a m b

structure slices.stableCmpFunc_api_Field_v_charge_Hash_1.S0 where
 a : Int
 b : Int
 v : List api.Field

noncomputable def slices.stableCmpFunc_api_Field_v_charge_Hash_1.body0 (n_ : Int) (s161 : slices.stableCmpFunc_api_Field_v_charge_Hash_1.S0) : Option (slices.stableCmpFunc_api_Field_v_charge_Hash_1.S0 ⊕ (Int × (List api.Field))) :=
 if s161.b ≤ n_ then
  (slices.insertionSortCmpFunc_api_Field_v_charge_Hash_1 s161.v s161.a s161.b).bind fun r165 =>
  some (.inl ⟨s161.b, IntKind.wrap .i64 (s161.b + 20), r165⟩)
 else
  some (.inr (s161.a, s161.v))

noncomputable def slices.stableCmpFunc_api_Field_v_charge_Hash_1.loop0 (n_ : Int) (s161 : slices.stableCmpFunc_api_Field_v_charge_Hash_1.S0) : Option (Int × (List api.Field)) := whileO (slices.stableCmpFunc_api_Field_v_charge_Hash_1.body0 n_) s161

structure slices.stableCmpFunc_api_Field_v_charge_Hash_1.S2 where
 blockSize : Int
 v : List api.Field

structure slices.stableCmpFunc_api_Field_v_charge_Hash_1.S4 where
 a : Int
 b : Int
 v : List api.Field

noncomputable def slices.stableCmpFunc_api_Field_v_charge_Hash_1.body4 (n_ : Int) (s240 : slices.stableCmpFunc_api_Field_v_charge_Hash_1.S2) (s265 : slices.stableCmpFunc_api_Field_v_charge_Hash_1.S4) : Option (slices.stableCmpFunc_api_Field_v_charge_Hash_1.S4 ⊕ (Int × (List api.Field))) :=
 if s265.b ≤ n_ then
  (slices.symMergeCmpFunc_api_Field_v_charge_Hash_1 s265.v s265.a (IntKind.wrap .i64 (s265.a + s240.blockSize)) s265.b).bind fun r269 =>
  some (.inl ⟨s265.b, IntKind.wrap .i64 (s265.b + (IntKind.wrap .i64 (2 * s240.blockSize))), r269⟩)
 else
  some (.inr (s265.a, s265.v))

noncomputable def slices.stableCmpFunc_api_Field_v_charge_Hash_1.loop4 (n_ : Int) (s240 : slices.stableCmpFunc_api_Field_v_charge_Hash_1.S2) (s265 : slices.stableCmpFunc_api_Field_v_charge_Hash_1.S4) : Option (Int × (List api.Field)) := whileO (slices.stableCmpFunc_api_Field_v_charge_Hash_1.body4 n_ s240) s265

noncomputable def slices.stableCmpFunc_api_Field_v_charge_Hash_1.body2 (n_ : Int) (s240 : slices.stableCmpFunc_api_Field_v_charge_Hash_1.S2) : Option (slices.stableCmpFunc_api_Field_v_charge_Hash_1.S2 ⊕ (List api.Field)) :=
 if s240.blockSize < n_ then
  (slices.stableCmpFunc_api_Field_v_charge_Hash_1.loop4 n_ s240 ⟨0, IntKind.wrap .i64 (2 * s240.blockSize), s240.v⟩).bind fun s256 =>
  (
   if (IntKind.wrap .i64 (s256.1 + s240.blockSize)) < n_ then
    (slices.symMergeCmpFunc_api_Field_v_charge_Hash_1 s256.2 s256.1 (IntKind.wrap .i64 (s256.1 + s240.blockSize)) n_).bind fun r276 =>
    some r276
   else
    some s256.2).bind fun s273 =>
  some (.inl ⟨IntKind.wrap .i64 (s240.blockSize * 2), s273⟩)
 else
  some (.inr s240.v)

noncomputable def slices.stableCmpFunc_api_Field_v_charge_Hash_1.loop2 (n_ : Int) (s240 : slices.stableCmpFunc_api_Field_v_charge_Hash_1.S2) : Option (List api.Field) := whileO (slices.stableCmpFunc_api_Field_v_charge_Hash_1.body2 n_) s240

noncomputable def slices.stableCmpFunc_api_Field_v_charge_Hash_1 (data : List api.Field) (n_ : Int) : Option (List api.Field) :=
 (slices.stableCmpFunc_api_Field_v_charge_Hash_1.loop0 n_ ⟨0, 20, data⟩).bind fun s152 =>
 (slices.insertionSortCmpFunc_api_Field_v_charge_Hash_1 s152.2 s152.1 n_).bind fun r167 =>
 slices.stableCmpFunc_api_Field_v_charge_Hash_1.loop2 n_ ⟨20, r167⟩

noncomputable def slices.SortStableFunc_api_Field_v_charge_Hash_1 (x_ : List api.Field) : Option (List api.Field) :=
 (slices.stableCmpFunc_api_Field_v_charge_Hash_1 x_ (x_.length : Int)).bind fun r2 =>
 some r2

noncomputable def charge.Hash_2 (a : api.Field) (b : api.Field) : Option Bool :=
 some (decide (a.Key = b.Key))

structure slices.CompactFunc_api_Field_v_charge_Hash_2.S0 where
 k : Int

structure slices.CompactFunc_api_Field_v_charge_Hash_2.S2 where
 k : Int
 k2 : Int
 v : List api.Field

noncomputable def slices.CompactFunc_api_Field_v_charge_Hash_2.body2 (s2361 : slices.CompactFunc_api_Field_v_charge_Hash_2.S0) (s_ : List api.Field) (s2537 : slices.CompactFunc_api_Field_v_charge_Hash_2.S2) : Option (slices.CompactFunc_api_Field_v_charge_Hash_2.S2 ⊕ (Int × (List api.Field))) :=
 need ((0 : Int) ≤ s2361.k ∧ s2361.k ≤ (s_.length : Int)) <|
 if s2537.k2 < ((s_.length : Int) - s2361.k) then
  (
   need (InP s2361.k (s_.length : Int) s2537.v.length) <|
   need (0 ≤ s2537.k2 ∧ s2537.k2 < (s_.length : Int) - s2361.k) <|
   need (InB (s2361.k + s2537.k2) s2537.v.length) <|
   need (InP s2361.k (s_.length : Int) s2537.v.length) <|
   need (0 ≤ (IntKind.wrap .i64 (s2537.k2 - 1)) ∧ (IntKind.wrap .i64 (s2537.k2 - 1)) < (s_.length : Int) - s2361.k) <|
   need (InB (s2361.k + (IntKind.wrap .i64 (s2537.k2 - 1))) s2537.v.length) <|
   (charge.Hash_2 (ix s2537.v (s2361.k + s2537.k2)) (ix s2537.v (s2361.k + (IntKind.wrap .i64 (s2537.k2 - 1))))).bind fun r2564 =>
   if (!r2564) = true then
    need (InP s2361.k (s_.length : Int) s2537.v.length) <|
    need (0 ≤ s2537.k2 ∧ s2537.k2 < (s_.length : Int) - s2361.k) <|
    need (InB (s2361.k + s2537.k2) s2537.v.length) <|
    need (InB s2537.k s2537.v.length) <|
    need (InB s2537.k s2537.v.length) <|
    some (IntKind.wrap .i64 (s2537.k + 1), upd s2537.v s2537.k (ix s2537.v (s2361.k + s2537.k2)))
   else
    some (s2537.k, s2537.v)).bind fun s2555 =>
  some (.inl ⟨s2555.1, IntKind.wrap .i64 (s2537.k2 + 1), s2555.2⟩)
 else
  some (.inr (s2537.k, s2537.v))

noncomputable def slices.CompactFunc_api_Field_v_charge_Hash_2.loop2 (s2361 : slices.CompactFunc_api_Field_v_charge_Hash_2.S0) (s_ : List api.Field) (s2537 : slices.CompactFunc_api_Field_v_charge_Hash_2.S2) : Option (Int × (List api.Field)) := whileO (slices.CompactFunc_api_Field_v_charge_Hash_2.body2 s2361 s_) s2537

noncomputable def slices.CompactFunc_api_Field_v_charge_Hash_2.body0 (s_ : List api.Field) (s2361 : slices.CompactFunc_api_Field_v_charge_Hash_2.S0) : Option (slices.CompactFunc_api_Field_v_charge_Hash_2.S0 ⊕ (Unit ⊕ (List api.Field))) :=
 if s2361.k < (s_.length : Int) then
  need (InB s2361.k s_.length) <|
  need (InB s2361.k s_.length) <|
  need (InB (IntKind.wrap .i64 (s2361.k - 1)) s_.length) <|
  need (InB (IntKind.wrap .i64 (s2361.k - 1)) s_.length) <|
  (charge.Hash_2 (ix s_ s2361.k) (ix s_ (IntKind.wrap .i64 (s2361.k - 1)))).bind fun r2369 =>
  if r2369 = true then
   need (InR s2361.k (s_.length : Int) s_.length) <|
   (slices.CompactFunc_api_Field_v_charge_Hash_2.loop2 s2361 s_ ⟨s2361.k, 1, s_⟩).bind fun s2470 =>
   need (InR s2470.1 (s2470.2.length : Int) s2470.2.length) <|
   need (InP s2470.1 (s2470.2.length : Int) s2470.2.length) <|
   need (InR 0 s2470.1 (clrL s2470.2 (Int.toNat s2470.1) (Int.toNat (s2470.2.length : Int)) (({ Key := ([] : List UInt8), Val := ([] : List UInt8) } : api.Field) : api.Field)).length) <|
   need (0 ≤ s2470.1 ∧ s2470.1 ≤ ((clrL s2470.2 (Int.toNat s2470.1) (Int.toNat (s2470.2.length : Int)) (({ Key := ([] : List UInt8), Val := ([] : List UInt8) } : api.Field) : api.Field)).length : Int)) <|
   some (.inr (.inr (List.take (Int.toNat s2470.1) (clrL s2470.2 (Int.toNat s2470.1) (Int.toNat (s2470.2.length : Int)) (({ Key := ([] : List UInt8), Val := ([] : List UInt8) } : api.Field) : api.Field)))))
  else
   some (.inl ⟨IntKind.wrap .i64 (s2361.k + 1)⟩)
 else
  some (.inr (.inl ()))

noncomputable def slices.CompactFunc_api_Field_v_charge_Hash_2.loop0 (s_ : List api.Field) (s2361 : slices.CompactFunc_api_Field_v_charge_Hash_2.S0) : Option (Unit ⊕ (List api.Field)) := whileO (slices.CompactFunc_api_Field_v_charge_Hash_2.body0 s_) s2361

noncomputable def slices.CompactFunc_api_Field_v_charge_Hash_2 (s_ : List api.Field) : Option (List api.Field) :=
 if (s_.length : Int) < 2 then
  some s_
 else
  (slices.CompactFunc_api_Field_v_charge_Hash_2.loop0 s_ ⟨1⟩).bind fun s2579 => onSum s2579 (fun s1932 =>
   some s_) fun s2579x => some s2579x

noncomputable def charge.Hash (l : List api.Field) : Option api.Value :=
 (slices.Clone_api_Field l).bind fun r10 =>
 (slices.Reverse_api_Field_v r10).bind fun r12 =>
 (slices.SortStableFunc_api_Field_v_charge_Hash_1 r12).bind fun r13 =>
 (slices.CompactFunc_api_Field_v_charge_Hash_2 r13).bind fun r14 =>
 if (r14.length : Int) = 0 then
  some ({ Kind := 0, Text := ([] : List UInt8), List_ := ([] : List (List UInt8)), Hash := ([] : List api.Field), ZSet := ([] : List api.Scored) } : api.Value)
 else
  some ({ Kind := 3, Text := ([] : List UInt8), List_ := ([] : List (List UInt8)), Hash := r14, ZSet := ([] : List api.Scored) } : api.Value)

noncomputable def slices.Clone_api_Scored (s : List api.Scored) : Option (List api.Scored) :=
 need ((([] : List api.Scored).length + s.length) * 24 ≤ 140737488355328) <|
 some s

structure slices.Reverse_api_Scored_v.S0 where
 i : Int
 j : Int
 v : List api.Scored

noncomputable def slices.Reverse_api_Scored_v.body0  (s54 : slices.Reverse_api_Scored_v.S0) : Option (slices.Reverse_api_Scored_v.S0 ⊕ (List api.Scored)) :=
 if s54.i < s54.j then
  need (InB s54.j s54.v.length) <|
  need (InB s54.j s54.v.length) <|
  need (InB s54.i s54.v.length) <|
  need (InB s54.i s54.v.length) <|
  need (InB s54.i s54.v.length) <|
  need (InB s54.i s54.v.length) <|
  need (InB s54.j (upd s54.v s54.i (ix s54.v s54.j)).length) <|
  need (InB s54.j (upd s54.v s54.i (ix s54.v s54.j)).length) <|
  some (.inl ⟨IntKind.wrap .i64 (s54.i + 1), IntKind.wrap .i64 (s54.j - 1), upd (upd s54.v s54.i (ix s54.v s54.j)) s54.j (ix s54.v s54.i)⟩)
 else
  some (.inr s54.v)

noncomputable def slices.Reverse_api_Scored_v.loop0  (s54 : slices.Reverse_api_Scored_v.S0) : Option (List api.Scored) := whileO (slices.Reverse_api_Scored_v.body0 ) s54

noncomputable def slices.Reverse_api_Scored_v (s_ : List api.Scored) : Option (List api.Scored) :=
 slices.Reverse_api_Scored_v.loop0  ⟨0, IntKind.wrap .i64 ((s_.length : Int) - 1), s_⟩

noncomputable def charge.ZSet_1 (a : api.Scored) (b : api.Scored) : Option Int :=
 (strings.Compare a.Member b.Member).bind fun r6 =>
 some r6

structure slices.insertionSortCmpFunc_api_Scored_v_charge_ZSet_1.S0 where
 i : Int
 v : List api.Scored

structure slices.insertionSortCmpFunc_api_Scored_v_charge_ZSet_1.S2 where
 j : Int
 v : List api.Scored

noncomputable def slices.insertionSortCmpFunc_api_Scored_v_charge_ZSet_1.body2 (a : Int) (s944 : slices.insertionSortCmpFunc_api_Scored_v_charge_ZSet_1.S2) : Option (slices.insertionSortCmpFunc_api_Scored_v_charge_ZSet_1.S2 ⊕ (List api.Scored)) :=
 (
  if a < s944.j then
   need (InB s944.j s944.v.length) <|
   need (InB s944.j s944.v.length) <|
   need (InB (IntKind.wrap .i64 (s944.j - 1)) s944.v.length) <|
   need (InB (IntKind.wrap .i64 (s944.j - 1)) s944.v.length) <|
   (charge.ZSet_1 (ix s944.v s944.j) (ix s944.v (IntKind.wrap .i64 (s944.j - 1)))).bind fun r962 =>
   some (decide (r962 < 0))
  else
   some false).bind fun s954 =>
 if s954 = true then
  need (InB (IntKind.wrap .i64 (s944.j - 1)) s944.v.length) <|
  need (InB (IntKind.wrap .i64 (s944.j - 1)) s944.v.length) <|
  need (InB s944.j s944.v.length) <|
  need (InB s944.j s944.v.length) <|
  need (InB s944.j s944.v.length) <|
  need (InB s944.j s944.v.length) <|
  need (InB (IntKind.wrap .i64 (s944.j - 1)) (upd s944.v s944.j (ix s944.v (IntKind.wrap .i64 (s944.j - 1)))).length) <|
  need (InB (IntKind.wrap .i64 (s944.j - 1)) (upd s944.v s944.j (ix s944.v (IntKind.wrap .i64 (s944.j - 1)))).length) <|
  some (.inl ⟨IntKind.wrap .i64 (s944.j - 1), upd (upd s944.v s944.j (ix s944.v (IntKind.wrap .i64 (s944.j - 1)))) (IntKind.wrap .i64 (s944.j - 1)) (ix s944.v s944.j)⟩)
 else
  some (.inr s944.v)

noncomputable def slices.insertionSortCmpFunc_api_Scored_v_charge_ZSet_1.loop2 (a : Int) (s944 : slices.insertionSortCmpFunc_api_Scored_v_charge_ZSet_1.S2) : Option (List api.Scored) := whileO (slices.insertionSortCmpFunc_api_Scored_v_charge_ZSet_1.body2 a) s944

noncomputable def slices.insertionSortCmpFunc_api_Scored_v_charge_ZSet_1.body0 (b : Int) (a : Int) (s809 : slices.insertionSortCmpFunc_api_Scored_v_charge_ZSet_1.S0) : Option (slices.insertionSortCmpFunc_api_Scored_v_charge_ZSet_1.S0 ⊕ (List api.Scored)) :=
 if s809.i < b then
  (slices.insertionSortCmpFunc_api_Scored_v_charge_ZSet_1.loop2 a ⟨s809.i, s809.v⟩).bind fun s891 =>
  some (.inl ⟨IntKind.wrap .i64 (s809.i + 1), s891⟩)
 else
  some (.inr s809.v)

noncomputable def slices.insertionSortCmpFunc_api_Scored_v_charge_ZSet_1.loop0 (b : Int) (a : Int) (s809 : slices.insertionSortCmpFunc_api_Scored_v_charge_ZSet_1.S0) : Option (List api.Scored) := whileO (slices.insertionSortCmpFunc_api_Scored_v_charge_ZSet_1.body0 b a) s809

noncomputable def slices.insertionSortCmpFunc_api_Scored_v_charge_ZSet_1 (data : List api.Scored) (a : Int) (b : Int) : Option (List api.Scored) :=
 slices.insertionSortCmpFunc_api_Scored_v_charge_ZSet_1.loop0 b a ⟨IntKind.wrap .i64 (a + 1), data⟩

structure slices.swapRangeCmpFunc_api_Scored_v_charge_ZSet_1.S0 where
 i : Int
 v : List api.Scored

noncomputable def slices.swapRangeCmpFunc_api_Scored_v_charge_ZSet_1.body0 (n_ : Int) (b : Int) (a : Int) (s54 : slices.swapRangeCmpFunc_api_Scored_v_charge_ZSet_1.S0) : Option (slices.swapRangeCmpFunc_api_Scored_v_charge_ZSet_1.S0 ⊕ (List api.Scored)) :=
 if s54.i < n_ then
  need (InB (IntKind.wrap .i64 (b + s54.i)) s54.v.length) <|
  need (InB (IntKind.wrap .i64 (b + s54.i)) s54.v.length) <|
  need (InB (IntKind.wrap .i64 (a + s54.i)) s54.v.length) <|
  need (InB (IntKind.wrap .i64 (a + s54.i)) s54.v.length) <|
  need (InB (IntKind.wrap .i64 (a + s54.i)) s54.v.length) <|
  need (InB (IntKind.wrap .i64 (a + s54.i)) s54.v.length) <|
  need (InB (IntKind.wrap .i64 (b + s54.i)) (upd s54.v (IntKind.wrap .i64 (a + s54.i)) (ix s54.v (IntKind.wrap .i64 (b + s54.i)))).length) <|
  need (InB (IntKind.wrap .i64 (b + s54.i)) (upd s54.v (IntKind.wrap .i64 (a + s54.i)) (ix s54.v (IntKind.wrap .i64 (b + s54.i)))).length) <|
  some (.inl ⟨IntKind.wrap .i64 (s54.i + 1), upd (upd s54.v (IntKind.wrap .i64 (a + s54.i)) (ix s54.v (IntKind.wrap .i64 (b + s54.i)))) (IntKind.wrap .i64 (b + s54.i)) (ix s54.v (IntKind.wrap .i64 (a + s54.i)))⟩)
 else
  some (.inr s54.v)

noncomputable def slices.swapRangeCmpFunc_api_Scored_v_charge_ZSet_1.loop0 (n_ : Int) (b : Int) (a : Int) (s54 : slices.swapRangeCmpFunc_api_Scored_v_charge_ZSet_1.S0) : Option (List api.Scored) := whileO (slices.swapRangeCmpFunc_api_Scored_v_charge_ZSet_1.body0 n_ b a) s54

noncomputable def slices.swapRangeCmpFunc_api_Scored_v_charge_ZSet_1 (data : List api.Scored) (a : Int) (b : Int) (n_ : Int) : Option (List api.Scored) :=
 slices.swapRangeCmpFunc_api_Scored_v_charge_ZSet_1.loop0 n_ b a ⟨0, data⟩

structure slices.rotateCmpFunc_api_Scored_v_charge_ZSet_1.S0 where
 i : Int
 j : Int
 v : List api.Scored

noncomputable def slices.rotateCmpFunc_api_Scored_v_charge_ZSet_1.body0 (m : Int) (s76 : slices.rotateCmpFunc_api_Scored_v_charge_ZSet_1.S0) : Option (slices.rotateCmpFunc_api_Scored_v_charge_ZSet_1.S0 ⊕ (Int × (List api.Scored))) :=
 if s76.i = s76.j then
  some (.inr (s76.i, s76.v))
 else
  if s76.j < s76.i then
   (slices.swapRangeCmpFunc_api_Scored_v_charge_ZSet_1 s76.v (IntKind.wrap .i64 (m - s76.i)) m s76.j).bind fun r80 =>
   some (.inl ⟨IntKind.wrap .i64 (s76.i - s76.j), s76.j, r80⟩)
  else
   (slices.swapRangeCmpFunc_api_Scored_v_charge_ZSet_1 s76.v (IntKind.wrap .i64 (m - s76.i)) (IntKind.wrap .i64 ((IntKind.wrap .i64 (m + s76.j)) - s76.i)) s76.i).bind fun r81 =>
   some (.inl ⟨s76.i, IntKind.wrap .i64 (s76.j - s76.i), r81⟩)

noncomputable def slices.rotateCmpFunc_api_Scored_v_charge_ZSet_1.loop0 (m : Int) (s76 : slices.rotateCmpFunc_api_Scored_v_charge_ZSet_1.S0) : Option (Int × (List api.Scored)) := whileO (slices.rotateCmpFunc_api_Scored_v_charge_ZSet_1.body0 m) s76

noncomputable def slices.rotateCmpFunc_api_Scored_v_charge_ZSet_1 (data : List api.Scored) (a : Int) (m : Int) (b : Int) : Option (List api.Scored) :=
 (slices.rotateCmpFunc_api_Scored_v_charge_ZSet_1.loop0 m ⟨IntKind.wrap .i64 (m - a), IntKind.wrap .i64 (b - m), data⟩).bind fun s62 =>
 (slices.swapRangeCmpFunc_api_Scored_v_charge_ZSet_1 s62.2 (IntKind.wrap .i64 (m - s62.1)) m s62.1).bind fun r84 =>
 some r84

structure slices.symMergeCmpFunc_api_Scored_v_charge_ZSet_1.S0 where
 i : Int
 j : Int

noncomputable def slices.symMergeCmpFunc_api_Scored_v_charge_ZSet_1.body0 (data : List api.Scored) (a : Int) (s434 : slices.symMergeCmpFunc_api_Scored_v_charge_ZSet_1.S0) : Option (slices.symMergeCmpFunc_api_Scored_v_charge_ZSet_1.S0 ⊕ Int) :=
 if s434.i < s434.j then
  need (InB (IntKind.wrap .i64 ((IntKind.wrap .u64 (IntKind.wrap .i64 (s434.i + s434.j))) / 2 ^ min (Int.toNat 1) (IntKind.bits .u64))) data.length) <|
  need (InB (IntKind.wrap .i64 ((IntKind.wrap .u64 (IntKind.wrap .i64 (s434.i + s434.j))) / 2 ^ min (Int.toNat 1) (IntKind.bits .u64))) data.length) <|
  need (InB a data.length) <|
  need (InB a data.length) <|
  (charge.ZSet_1 (ix data (IntKind.wrap .i64 ((IntKind.wrap .u64 (IntKind.wrap .i64 (s434.i + s434.j))) / 2 ^ min (Int.toNat 1) (IntKind.bits .u64)))) (ix data a)).bind fun r442 =>
  if r442 < 0 then
   letO (IntKind.wrap .i64 ((IntKind.wrap .i64 ((IntKind.wrap .u64 (IntKind.wrap .i64 (s434.i + s434.j))) / 2 ^ min (Int.toNat 1) (IntKind.bits .u64))) + 1)) fun x443 =>
   some (.inl ⟨x443, s434.j⟩)
  else
   some (.inl ⟨s434.i, IntKind.wrap .i64 ((IntKind.wrap .u64 (IntKind.wrap .i64 (s434.i + s434.j))) / 2 ^ min (Int.toNat 1) (IntKind.bits .u64))⟩)
 else
  some (.inr s434.i)

noncomputable def slices.symMergeCmpFunc_api_Scored_v_charge_ZSet_1.loop0 (data : List api.Scored) (a : Int) (s434 : slices.symMergeCmpFunc_api_Scored_v_charge_ZSet_1.S0) : Option Int := whileO (slices.symMergeCmpFunc_api_Scored_v_charge_ZSet_1.body0 data a) s434

structure slices.symMergeCmpFunc_api_Scored_v_charge_ZSet_1.S2 where
 k : Int
 v : List api.Scored

noncomputable def slices.symMergeCmpFunc_api_Scored_v_charge_ZSet_1.body2 (s413 : Int) (s502 : slices.symMergeCmpFunc_api_Scored_v_charge_ZSet_1.S2) : Option (slices.symMergeCmpFunc_api_Scored_v_charge_ZSet_1.S2 ⊕ (List api.Scored)) :=
 if s502.k < (IntKind.wrap .i64 (s413 - 1)) then
  need (InB (IntKind.wrap .i64 (s502.k + 1)) s502.v.length) <|
  need (InB (IntKind.wrap .i64 (s502.k + 1)) s502.v.length) <|
  need (InB s502.k s502.v.length) <|
  need (InB s502.k s502.v.length) <|
  need (InB s502.k s502.v.length) <|
  need (InB s502.k s502.v.length) <|
  need (InB (IntKind.wrap .i64 (s502.k + 1)) (upd s502.v s502.k (ix s502.v (IntKind.wrap .i64 (s502.k + 1)))).length) <|
  need (InB (IntKind.wrap .i64 (s502.k + 1)) (upd s502.v s502.k (ix s502.v (IntKind.wrap .i64 (s502.k + 1)))).length) <|
  some (.inl ⟨IntKind.wrap .i64 (s502.k + 1), upd (upd s502.v s502.k (ix s502.v (IntKind.wrap .i64 (s502.k + 1)))) (IntKind.wrap .i64 (s502.k + 1)) (ix s502.v s502.k)⟩)
 else
  some (.inr s502.v)

noncomputable def slices.symMergeCmpFunc_api_Scored_v_charge_ZSet_1.loop2 (s413 : Int) (s502 : slices.symMergeCmpFunc_api_Scored_v_charge_ZSet_1.S2) : Option (List api.Scored) := whileO (slices.symMergeCmpFunc_api_Scored_v_charge_ZSet_1.body2 s413) s502

structure slices.symMergeCmpFunc_api_Scored_v_charge_ZSet_1.S4 where
 i : Int
 j : Int

noncomputable def slices.symMergeCmpFunc_api_Scored_v_charge_ZSet_1.body4 (m : Int) (data : List api.Scored) (s566 : slices.symMergeCmpFunc_api_Scored_v_charge_ZSet_1.S4) : Option (slices.symMergeCmpFunc_api_Scored_v_charge_ZSet_1.S4 ⊕ Int) :=
 if s566.i < s566.j then
  need (InB m data.length) <|
  need (InB m data.length) <|
  need (InB (IntKind.wrap .i64 ((IntKind.wrap .u64 (IntKind.wrap .i64 (s566.i + s566.j))) / 2 ^ min (Int.toNat 1) (IntKind.bits .u64))) data.length) <|
  need (InB (IntKind.wrap .i64 ((IntKind.wrap .u64 (IntKind.wrap .i64 (s566.i + s566.j))) / 2 ^ min (Int.toNat 1) (IntKind.bits .u64))) data.length) <|
  (charge.ZSet_1 (ix data m) (ix data (IntKind.wrap .i64 ((IntKind.wrap .u64 (IntKind.wrap .i64 (s566.i + s566.j))) / 2 ^ min (Int.toNat 1) (IntKind.bits .u64))))).bind fun r574 =>
  if r574 < 0 then
   some (.inl ⟨s566.i, IntKind.wrap .i64 ((IntKind.wrap .u64 (IntKind.wrap .i64 (s566.i + s566.j))) / 2 ^ min (Int.toNat 1) (IntKind.bits .u64))⟩)
  else
   letO (IntKind.wrap .i64 ((IntKind.wrap .i64 ((IntKind.wrap .u64 (IntKind.wrap .i64 (s566.i + s566.j))) / 2 ^ min (Int.toNat 1) (IntKind.bits .u64))) + 1)) fun x575 =>
   some (.inl ⟨x575, s566.j⟩)
 else
  some (.inr s566.i)

noncomputable def slices.symMergeCmpFunc_api_Scored_v_charge_ZSet_1.loop4 (m : Int) (data : List api.Scored) (s566 : slices.symMergeCmpFunc_api_Scored_v_charge_ZSet_1.S4) : Option Int := whileO (slices.symMergeCmpFunc_api_Scored_v_charge_ZSet_1.body4 m data) s566

structure slices.symMergeCmpFunc_api_Scored_v_charge_ZSet_1.S6 where
 k : Int
 v : List api.Scored

noncomputable def slices.symMergeCmpFunc_api_Scored_v_charge_ZSet_1.body6 (s545 : Int) (s634 : slices.symMergeCmpFunc_api_Scored_v_charge_ZSet_1.S6) : Option (slices.symMergeCmpFunc_api_Scored_v_charge_ZSet_1.S6 ⊕ (List api.Scored)) :=
 if s545 < s634.k then
  need (InB (IntKind.wrap .i64 (s634.k - 1)) s634.v.length) <|
  need (InB (IntKind.wrap .i64 (s634.k - 1)) s634.v.length) <|
  need (InB s634.k s634.v.length) <|
  need (InB s634.k s634.v.length) <|
  need (InB s634.k s634.v.length) <|
  need (InB s634.k s634.v.length) <|
  need (InB (IntKind.wrap .i64 (s634.k - 1)) (upd s634.v s634.k (ix s634.v (IntKind.wrap .i64 (s634.k - 1)))).length) <|
  need (InB (IntKind.wrap .i64 (s634.k - 1)) (upd s634.v s634.k (ix s634.v (IntKind.wrap .i64 (s634.k - 1)))).length) <|
  some (.inl ⟨IntKind.wrap .i64 (s634.k - 1), upd (upd s634.v s634.k (ix s634.v (IntKind.wrap .i64 (s634.k - 1)))) (IntKind.wrap .i64 (s634.k - 1)) (ix s634.v s634.k)⟩)
 else
  some (.inr s634.v)

noncomputable def slices.symMergeCmpFunc_api_Scored_v_charge_ZSet_1.loop6 (s545 : Int) (s634 : slices.symMergeCmpFunc_api_Scored_v_charge_ZSet_1.S6) : Option (List api.Scored) := whileO (slices.symMergeCmpFunc_api_Scored_v_charge_ZSet_1.body6 s545) s634

structure slices.symMergeCmpFunc_api_Scored_v_charge_ZSet_1.S8 where
 start : Int
 r : Int

noncomputable def slices.symMergeCmpFunc_api_Scored_v_charge_ZSet_1.body8 (x647 : Int) (data : List api.Scored) (s709 : slices.symMergeCmpFunc_api_Scored_v_charge_ZSet_1.S8) : Option (slices.symMergeCmpFunc_api_Scored_v_charge_ZSet_1.S8 ⊕ Int) :=
 if s709.start < s709.r then
  letO (IntKind.wrap .i64 ((IntKind.wrap .i64 (x647 - 1)) - (IntKind.wrap .i64 ((IntKind.wrap .u64 (IntKind.wrap .i64 (s709.start + s709.r))) / 2 ^ min (Int.toNat 1) (IntKind.bits .u64))))) fun x713 =>
  need (InB x713 data.length) <|
  need (InB x713 data.length) <|
  need (InB (IntKind.wrap .i64 ((IntKind.wrap .u64 (IntKind.wrap .i64 (s709.start + s709.r))) / 2 ^ min (Int.toNat 1) (IntKind.bits .u64))) data.length) <|
  need (InB (IntKind.wrap .i64 ((IntKind.wrap .u64 (IntKind.wrap .i64 (s709.start + s709.r))) / 2 ^ min (Int.toNat 1) (IntKind.bits .u64))) data.length) <|
  (charge.ZSet_1 (ix data x713) (ix data (IntKind.wrap .i64 ((IntKind.wrap .u64 (IntKind.wrap .i64 (s709.start + s709.r))) / 2 ^ min (Int.toNat 1) (IntKind.bits .u64))))).bind fun r718 =>
  if r718 < 0 then
   some (.inl ⟨s709.start, IntKind.wrap .i64 ((IntKind.wrap .u64 (IntKind.wrap .i64 (s709.start + s709.r))) / 2 ^ min (Int.toNat 1) (IntKind.bits .u64))⟩)
  else
   letO (IntKind.wrap .i64 ((IntKind.wrap .i64 ((IntKind.wrap .u64 (IntKind.wrap .i64 (s709.start + s709.r))) / 2 ^ min (Int.toNat 1) (IntKind.bits .u64))) + 1)) fun x719 =>
   some (.inl ⟨x719, s709.r⟩)
 else
  some (.inr s709.start)

noncomputable def slices.symMergeCmpFunc_api_Scored_v_charge_ZSet_1.loop8 (x647 : Int) (data : List api.Scored) (s709 : slices.symMergeCmpFunc_api_Scored_v_charge_ZSet_1.S8) : Option Int := whileO (slices.symMergeCmpFunc_api_Scored_v_charge_ZSet_1.body8 x647 data) s709

noncomputable def slices.symMergeCmpFunc_api_Scored_v_charge_ZSet_1.rec : Nat → (List api.Scored) → Int → Int → Int → Option (List api.Scored)
 | 0, _, _, _, _ => none
 | kk + 1, data, a, m, b =>
  if (IntKind.wrap .i64 (m - a)) = 1 then
   (slices.symMergeCmpFunc_api_Scored_v_charge_ZSet_1.loop0 data a ⟨m, b⟩).bind fun s413 =>
   (slices.symMergeCmpFunc_api_Scored_v_charge_ZSet_1.loop2 s413 ⟨a, data⟩).bind fun s479 =>
   some s479
  else
   if (IntKind.wrap .i64 (b - m)) = 1 then
    (slices.symMergeCmpFunc_api_Scored_v_charge_ZSet_1.loop4 m data ⟨a, m⟩).bind fun s545 =>
    (slices.symMergeCmpFunc_api_Scored_v_charge_ZSet_1.loop6 s545 ⟨m, data⟩).bind fun s611 =>
    some s611
   else
    letO (IntKind.wrap .i64 ((IntKind.wrap .i64 ((IntKind.wrap .u64 (IntKind.wrap .i64 (a + b))) / 2 ^ min (Int.toNat 1) (IntKind.bits .u64))) + m)) fun x647 =>
    letO (
     if (IntKind.wrap .i64 ((IntKind.wrap .u64 (IntKind.wrap .i64 (a + b))) / 2 ^ min (Int.toNat 1) (IntKind.bits .u64))) < m then
      (IntKind.wrap .i64 (x647 - b), IntKind.wrap .i64 ((IntKind.wrap .u64 (IntKind.wrap .i64 (a + b))) / 2 ^ min (Int.toNat 1) (IntKind.bits .u64)))
     else
      (a, m)) fun s649 =>
    (slices.symMergeCmpFunc_api_Scored_v_charge_ZSet_1.loop8 x647 data ⟨s649.1, s649.2⟩).bind fun s686 =>
    (
     letO (
      if s686 < m then
       decide (m < (IntKind.wrap .i64 (x647 - s686)))
      else
       false) fun s733 =>
     if s733 = true then
      (slices.rotateCmpFunc_api_Scored_v_charge_ZSet_1 data s686 m (IntKind.wrap .i64 (x647 - s686))).bind fun r737 =>
      some r737
     else
      some data).bind fun s729 =>
    (
     letO (
      if a < s686 then
       decide (s686 < (IntKind.wrap .i64 ((IntKind.wrap .u64 (IntKind.wrap .i64 (a + b))) / 2 ^ min (Int.toNat 1) (IntKind.bits .u64))))
      else
       false) fun s750 =>
     if s750 = true then
      (slices.symMergeCmpFunc_api_Scored_v_charge_ZSet_1.rec kk s729 a s686 (IntKind.wrap .i64 ((IntKind.wrap .u64 (IntKind.wrap .i64 (a + b))) / 2 ^ min (Int.toNat 1) (IntKind.bits .u64)))).bind fun r754 =>
      some r754
     else
      some s729).bind fun s746 =>
    letO (
     if (IntKind.wrap .i64 ((IntKind.wrap .u64 (IntKind.wrap .i64 (a + b))) / 2 ^ min (Int.toNat 1) (IntKind.bits .u64))) < (IntKind.wrap .i64 (x647 - s686)) then
      decide ((IntKind.wrap .i64 (x647 - s686)) < b)
     else
      false) fun s757 =>
    if s757 = true then
     (slices.symMergeCmpFunc_api_Scored_v_charge_ZSet_1.rec kk s746 (IntKind.wrap .i64 ((IntKind.wrap .u64 (IntKind.wrap .i64 (a + b))) / 2 ^ min (Int.toNat 1) (IntKind.bits .u64))) (IntKind.wrap .i64 (x647 - s686)) b).bind fun r761 =>
     some r761
    else
     some s746

noncomputable def slices.symMergeCmpFunc_api_Scored_v_charge_ZSet_1 (data : List api.Scored) (a : Int) (m : Int) (b : Int) : Option (List api.Scored) := fixO fun kk => slices.symMergeCmpFunc_api_Scored_v_charge_ZSet_1.rec kk data a m b

structure slices.stableCmpFunc_api_Scored_v_charge_ZSet_1.S0 where
 a : Int
 b : Int
 v : List api.Scored

noncomputable def slices.stableCmpFunc_api_Scored_v_charge_ZSet_1.body0 (n_ : Int) (s161 : slices.stableCmpFunc_api_Scored_v_charge_ZSet_1.S0) : Option (slices.stableCmpFunc_api_Scored_v_charge_ZSet_1.S0 ⊕ (Int × (List api.Scored))) :=
 if s161.b ≤ n_ then
  (slices.insertionSortCmpFunc_api_Scored_v_charge_ZSet_1 s161.v s161.a s161.b).bind fun r165 =>
  some (.inl ⟨s161.b, IntKind.wrap .i64 (s161.b + 20), r165⟩)
 else
  some (.inr (s161.a, s161.v))

noncomputable def slices.stableCmpFunc_api_Scored_v_charge_ZSet_1.loop0 (n_ : Int) (s161 : slices.stableCmpFunc_api_Scored_v_charge_ZSet_1.S0) : Option (Int × (List api.Scored)) := whileO (slices.stableCmpFunc_api_Scored_v_charge_ZSet_1.body0 n_) s161

structure slices.stableCmpFunc_api_Scored_v_charge_ZSet_1.S2 where
 blockSize : Int
 v : List api.Scored

structure slices.stableCmpFunc_api_Scored_v_charge_ZSet_1.S4 where
 a : Int
 b : Int
 v : List api.Scored

noncomputable def slices.stableCmpFunc_api_Scored_v_charge_ZSet_1.body4 (n_ : Int) (s240 : slices.stableCmpFunc_api_Scored_v_charge_ZSet_1.S2) (s265 : slices.stableCmpFunc_api_Scored_v_charge_ZSet_1.S4) : Option (slices.stableCmpFunc_api_Scored_v_charge_ZSet_1.S4 ⊕ (Int × (List api.Scored))) :=
 if s265.b ≤ n_ then
  (slices.symMergeCmpFunc_api_Scored_v_charge_ZSet_1 s265.v s265.a (IntKind.wrap .i64 (s265.a + s240.blockSize)) s265.b).bind fun r269 =>
  some (.inl ⟨s265.b, IntKind.wrap .i64 (s265.b + (IntKind.wrap .i64 (2 * s240.blockSize))), r269⟩)
 else
  some (.inr (s265.a, s265.v))

noncomputable def slices.stableCmpFunc_api_Scored_v_charge_ZSet_1.loop4 (n_ : Int) (s240 : slices.stableCmpFunc_api_Scored_v_charge_ZSet_1.S2) (s265 : slices.stableCmpFunc_api_Scored_v_charge_ZSet_1.S4) : Option (Int × (List api.Scored)) := whileO (slices.stableCmpFunc_api_Scored_v_charge_ZSet_1.body4 n_ s240) s265

noncomputable def slices.stableCmpFunc_api_Scored_v_charge_ZSet_1.body2 (n_ : Int) (s240 : slices.stableCmpFunc_api_Scored_v_charge_ZSet_1.S2) : Option (slices.stableCmpFunc_api_Scored_v_charge_ZSet_1.S2 ⊕ (List api.Scored)) :=
 if s240.blockSize < n_ then
  (slices.stableCmpFunc_api_Scored_v_charge_ZSet_1.loop4 n_ s240 ⟨0, IntKind.wrap .i64 (2 * s240.blockSize), s240.v⟩).bind fun s256 =>
  (
   if (IntKind.wrap .i64 (s256.1 + s240.blockSize)) < n_ then
    (slices.symMergeCmpFunc_api_Scored_v_charge_ZSet_1 s256.2 s256.1 (IntKind.wrap .i64 (s256.1 + s240.blockSize)) n_).bind fun r276 =>
    some r276
   else
    some s256.2).bind fun s273 =>
  some (.inl ⟨IntKind.wrap .i64 (s240.blockSize * 2), s273⟩)
 else
  some (.inr s240.v)

noncomputable def slices.stableCmpFunc_api_Scored_v_charge_ZSet_1.loop2 (n_ : Int) (s240 : slices.stableCmpFunc_api_Scored_v_charge_ZSet_1.S2) : Option (List api.Scored) := whileO (slices.stableCmpFunc_api_Scored_v_charge_ZSet_1.body2 n_) s240

noncomputable def slices.stableCmpFunc_api_Scored_v_charge_ZSet_1 (data : List api.Scored) (n_ : Int) : Option (List api.Scored) :=
 (slices.stableCmpFunc_api_Scored_v_charge_ZSet_1.loop0 n_ ⟨0, 20, data⟩).bind fun s152 =>
 (slices.insertionSortCmpFunc_api_Scored_v_charge_ZSet_1 s152.2 s152.1 n_).bind fun r167 =>
 slices.stableCmpFunc_api_Scored_v_charge_ZSet_1.loop2 n_ ⟨20, r167⟩

noncomputable def slices.SortStableFunc_api_Scored_v_charge_ZSet_1 (x_ : List api.Scored) : Option (List api.Scored) :=
 (slices.stableCmpFunc_api_Scored_v_charge_ZSet_1 x_ (x_.length : Int)).bind fun r2 =>
 some r2

noncomputable def charge.ZSet_2 (a : api.Scored) (b : api.Scored) : Option Bool :=
 some (decide (a.Member = b.Member))

structure slices.CompactFunc_api_Scored_v_charge_ZSet_2.S0 where
 k : Int

structure slices.CompactFunc_api_Scored_v_charge_ZSet_2.S2 where
 k : Int
 k2 : Int
 v : List api.Scored

noncomputable def slices.CompactFunc_api_Scored_v_charge_ZSet_2.body2 (s2361 : slices.CompactFunc_api_Scored_v_charge_ZSet_2.S0) (s_ : List api.Scored) (s2537 : slices.CompactFunc_api_Scored_v_charge_ZSet_2.S2) : Option (slices.CompactFunc_api_Scored_v_charge_ZSet_2.S2 ⊕ (Int × (List api.Scored))) :=
 need ((0 : Int) ≤ s2361.k ∧ s2361.k ≤ (s_.length : Int)) <|
 if s2537.k2 < ((s_.length : Int) - s2361.k) then
  (
   need (InP s2361.k (s_.length : Int) s2537.v.length) <|
   need (0 ≤ s2537.k2 ∧ s2537.k2 < (s_.length : Int) - s2361.k) <|
   need (InB (s2361.k + s2537.k2) s2537.v.length) <|
   need (InP s2361.k (s_.length : Int) s2537.v.length) <|
   need (0 ≤ (IntKind.wrap .i64 (s2537.k2 - 1)) ∧ (IntKind.wrap .i64 (s2537.k2 - 1)) < (s_.length : Int) - s2361.k) <|
   need (InB (s2361.k + (IntKind.wrap .i64 (s2537.k2 - 1))) s2537.v.length) <|
   (charge.ZSet_2 (ix s2537.v (s2361.k + s2537.k2)) (ix s2537.v (s2361.k + (IntKind.wrap .i64 (s2537.k2 - 1))))).bind fun r2564 =>
   if (!r2564) = true then
    need (InP s2361.k (s_.length : Int) s2537.v.length) <|
    need (0 ≤ s2537.k2 ∧ s2537.k2 < (s_.length : Int) - s2361.k) <|
    need (InB (s2361.k + s2537.k2) s2537.v.length) <|
    need (InB s2537.k s2537.v.length) <|
    need (InB s2537.k s2537.v.length) <|
    some (IntKind.wrap .i64 (s2537.k + 1), upd s2537.v s2537.k (ix s2537.v (s2361.k + s2537.k2)))
   else
    some (s2537.k, s2537.v)).bind fun s2555 =>
  some (.inl ⟨s2555.1, IntKind.wrap .i64 (s2537.k2 + 1), s2555.2⟩)
 else
  some (.inr (s2537.k, s2537.v))

noncomputable def slices.CompactFunc_api_Scored_v_charge_ZSet_2.loop2 (s2361 : slices.CompactFunc_api_Scored_v_charge_ZSet_2.S0) (s_ : List api.Scored) (s2537 : slices.CompactFunc_api_Scored_v_charge_ZSet_2.S2) : Option (Int × (List api.Scored)) := whileO (slices.CompactFunc_api_Scored_v_charge_ZSet_2.body2 s2361 s_) s2537

noncomputable def slices.CompactFunc_api_Scored_v_charge_ZSet_2.body0 (s_ : List api.Scored) (s2361 : slices.CompactFunc_api_Scored_v_charge_ZSet_2.S0) : Option (slices.CompactFunc_api_Scored_v_charge_ZSet_2.S0 ⊕ (Unit ⊕ (List api.Scored))) :=
 if s2361.k < (s_.length : Int) then
  need (InB s2361.k s_.length) <|
  need (InB s2361.k s_.length) <|
  need (InB (IntKind.wrap .i64 (s2361.k - 1)) s_.length) <|
  need (InB (IntKind.wrap .i64 (s2361.k - 1)) s_.length) <|
  (charge.ZSet_2 (ix s_ s2361.k) (ix s_ (IntKind.wrap .i64 (s2361.k - 1)))).bind fun r2369 =>
  if r2369 = true then
   need (InR s2361.k (s_.length : Int) s_.length) <|
   (slices.CompactFunc_api_Scored_v_charge_ZSet_2.loop2 s2361 s_ ⟨s2361.k, 1, s_⟩).bind fun s2470 =>
   need (InR s2470.1 (s2470.2.length : Int) s2470.2.length) <|
   need (InP s2470.1 (s2470.2.length : Int) s2470.2.length) <|
   need (InR 0 s2470.1 (clrL s2470.2 (Int.toNat s2470.1) (Int.toNat (s2470.2.length : Int)) (({ Member := ([] : List UInt8), Score := 0 } : api.Scored) : api.Scored)).length) <|
   need (0 ≤ s2470.1 ∧ s2470.1 ≤ ((clrL s2470.2 (Int.toNat s2470.1) (Int.toNat (s2470.2.length : Int)) (({ Member := ([] : List UInt8), Score := 0 } : api.Scored) : api.Scored)).length : Int)) <|
   some (.inr (.inr (List.take (Int.toNat s2470.1) (clrL s2470.2 (Int.toNat s2470.1) (Int.toNat (s2470.2.length : Int)) (({ Member := ([] : List UInt8), Score := 0 } : api.Scored) : api.Scored)))))
  else
   some (.inl ⟨IntKind.wrap .i64 (s2361.k + 1)⟩)
 else
  some (.inr (.inl ()))

noncomputable def slices.CompactFunc_api_Scored_v_charge_ZSet_2.loop0 (s_ : List api.Scored) (s2361 : slices.CompactFunc_api_Scored_v_charge_ZSet_2.S0) : Option (Unit ⊕ (List api.Scored)) := whileO (slices.CompactFunc_api_Scored_v_charge_ZSet_2.body0 s_) s2361

noncomputable def slices.CompactFunc_api_Scored_v_charge_ZSet_2 (s_ : List api.Scored) : Option (List api.Scored) :=
 if (s_.length : Int) < 2 then
  some s_
 else
  (slices.CompactFunc_api_Scored_v_charge_ZSet_2.loop0 s_ ⟨1⟩).bind fun s2579 => onSum s2579 (fun s1932 =>
   some s_) fun s2579x => some s2579x

noncomputable def slices.SortFunc_api_Scored (x : List api.Scored) : Option (List api.Scored) :=
 need (x.length < 4611686018427387904) <|
 some (x.mergeSort fun a b => !(decide (b.Score < a.Score) || (decide (b.Score = a.Score) && strLt b.Member a.Member)))

noncomputable def charge.ZSet (l : List api.Scored) : Option api.Value :=
 (slices.Clone_api_Scored l).bind fun r11 =>
 (slices.Reverse_api_Scored_v r11).bind fun r13 =>
 (slices.SortStableFunc_api_Scored_v_charge_ZSet_1 r13).bind fun r14 =>
 (slices.CompactFunc_api_Scored_v_charge_ZSet_2 r14).bind fun r15 =>
 (slices.SortFunc_api_Scored r15).bind fun r17 =>
 if (r17.length : Int) = 0 then
  some ({ Kind := 0, Text := ([] : List UInt8), List_ := ([] : List (List UInt8)), Hash := ([] : List api.Field), ZSet := ([] : List api.Scored) } : api.Value)
 else
  some ({ Kind := 5, Text := ([] : List UInt8), List_ := ([] : List (List UInt8)), Hash := ([] : List api.Field), ZSet := r17 } : api.Value)

structure mewslaw19.ChargeMay.S0 where
 turned : List (List UInt8)
 t25 : Int

noncomputable def mewslaw19.ChargeMay.body0 (l : List (List UInt8)) (s152 : mewslaw19.ChargeMay.S0) : Option (mewslaw19.ChargeMay.S0 ⊕ (List (List UInt8))) :=
 if s152.t25 < (l.length : Int) then
  need (InB (IntKind.wrap .i64 ((IntKind.wrap .i64 ((l.length : Int) - 1)) - s152.t25)) l.length) <|
  need ((s152.turned.length + [ix l (IntKind.wrap .i64 ((IntKind.wrap .i64 ((l.length : Int) - 1)) - s152.t25))].length) * 16 ≤ 140737488355328) <|
  some (.inl ⟨s152.turned ++ [ix l (IntKind.wrap .i64 ((IntKind.wrap .i64 ((l.length : Int) - 1)) - s152.t25))], IntKind.wrap .i64 (s152.t25 + 1)⟩)
 else
  some (.inr s152.turned)

noncomputable def mewslaw19.ChargeMay.loop0 (l : List (List UInt8)) (s152 : mewslaw19.ChargeMay.S0) : Option (List (List UInt8)) := whileO (mewslaw19.ChargeMay.body0 l) s152

noncomputable def mewslaw19.ChargeMay (l : List (List UInt8)) (h_ : List api.Field) (z : List api.Scored) : Option Bool :=
 (mewslaw19.Far [({ Kind := 0, Text := ([] : List UInt8), List_ := l, Hash := h_, ZSet := z } : api.Value)]).bind fun r114 =>
 if r114 = true then
  (mewslaw19.alive).bind fun r115 =>
  some r115
 else
  (mewslaw19.ChargeMay.loop0 l ⟨([] : List (List UInt8)), 0⟩).bind fun s137 =>
  (charge.Set l).bind fun r162 =>
  (charge.Set s137).bind fun r163 =>
  (charge.Hash h_).bind fun r166 =>
  (charge.ZSet z).bind fun r167 =>
  (
   (charge.Same r162 r163).bind fun r184 =>
   if (!r184) = true then
    some true
   else
    (charge.May r162).bind fun r186 =>
    if (!(r186 == (decide (0 < (l.length : Int))))) = true then
     some true
    else
     (charge.May r166).bind fun r188 =>
     if (!(r188 == (decide (0 < (h_.length : Int))))) = true then
      some true
     else
      (charge.May r167).bind fun r190 =>
      if (!(r190 == (decide (0 < (z.length : Int))))) = true then
       some true
      else
       if (l.length : Int) = 0 then
        (charge.Same r162 ({ Kind := 0, Text := ([] : List UInt8), List_ := ([] : List (List UInt8)), Hash := ([] : List api.Field), ZSet := ([] : List api.Scored) } : api.Value)).bind fun r193 =>
        some (!r193)
       else
        some false).bind fun s181 =>
  if s181 = true then
   some false
  else
   (
    (charge.Set r162.List_).bind fun r210 =>
    (charge.Same r210 r162).bind fun r211 =>
    if r211 = true then
     (charge.Hash r166.Hash).bind fun r213 =>
     (charge.Same r213 r166).bind fun r214 =>
     if r214 = true then
      (charge.ZSet r167.ZSet).bind fun r216 =>
      (charge.Same r216 r167).bind fun r217 =>
      if r217 = true then
       (charge.Text ([] : List UInt8)).bind fun r219 =>
       (charge.May r219).bind fun r220 =>
       if r220 = true then
        (mewslaw19.alive).bind fun r222 =>
        some r222
       else
        some false
      else
       some false
     else
      some false
    else
     some false).bind fun s207 =>
   some s207

noncomputable def mewsref19.Text (s_ : List UInt8) : Option api.Value :=
 some ({ Kind := 1, Text := s_, List_ := ([] : List (List UInt8)), Hash := ([] : List api.Field), ZSet := ([] : List api.Scored) } : api.Value)

structure mewsref19.texts.S0 where
 i : Int

noncomputable def mewsref19.texts.body0 (a : List (List UInt8)) (b : List (List UInt8)) (s73 : mewsref19.texts.S0) : Option (mewsref19.texts.S0 ⊕ (Unit ⊕ Bool)) :=
 if s73.i < (a.length : Int) then
  need (InB s73.i a.length) <|
  need (InB s73.i b.length) <|
  if (ix a s73.i) = (ix b s73.i) then
   some (.inl ⟨IntKind.wrap .i64 (s73.i + 1)⟩)
  else
   some (.inr (.inr false))
 else
  some (.inr (.inl ()))

noncomputable def mewsref19.texts.loop0 (a : List (List UInt8)) (b : List (List UInt8)) (s73 : mewsref19.texts.S0) : Option (Unit ⊕ Bool) := whileO (mewsref19.texts.body0 a b) s73

noncomputable def mewsref19.texts (a : List (List UInt8)) (b : List (List UInt8)) : Option Bool :=
 if (a.length : Int) = (b.length : Int) then
  (mewsref19.texts.loop0 a b ⟨0⟩).bind fun s81 => onSum s81 (fun s60 =>
   some true) fun s81x => some s81x
 else
  some false

structure mewsref19.fields.S0 where
 i : Int

noncomputable def mewsref19.fields.body0 (a : List api.Field) (b : List api.Field) (s73 : mewsref19.fields.S0) : Option (mewsref19.fields.S0 ⊕ (Unit ⊕ Bool)) :=
 if s73.i < (a.length : Int) then
  need (InB s73.i a.length) <|
  need (InB s73.i b.length) <|
  if (ix a s73.i) = (ix b s73.i) then
   some (.inl ⟨IntKind.wrap .i64 (s73.i + 1)⟩)
  else
   some (.inr (.inr false))
 else
  some (.inr (.inl ()))

noncomputable def mewsref19.fields.loop0 (a : List api.Field) (b : List api.Field) (s73 : mewsref19.fields.S0) : Option (Unit ⊕ Bool) := whileO (mewsref19.fields.body0 a b) s73

noncomputable def mewsref19.fields (a : List api.Field) (b : List api.Field) : Option Bool :=
 if (a.length : Int) = (b.length : Int) then
  (mewsref19.fields.loop0 a b ⟨0⟩).bind fun s81 => onSum s81 (fun s60 =>
   some true) fun s81x => some s81x
 else
  some false

structure mewsref10.Same.S0 where
 i : Int

noncomputable def mewsref10.Same.body0 (a : List api.Scored) (b : List api.Scored) (s73 : mewsref10.Same.S0) : Option (mewsref10.Same.S0 ⊕ (Unit ⊕ Bool)) :=
 if s73.i < (a.length : Int) then
  need (InB s73.i a.length) <|
  need (InB s73.i b.length) <|
  if (ix a s73.i) = (ix b s73.i) then
   some (.inl ⟨IntKind.wrap .i64 (s73.i + 1)⟩)
  else
   some (.inr (.inr false))
 else
  some (.inr (.inl ()))

noncomputable def mewsref10.Same.loop0 (a : List api.Scored) (b : List api.Scored) (s73 : mewsref10.Same.S0) : Option (Unit ⊕ Bool) := whileO (mewsref10.Same.body0 a b) s73

noncomputable def mewsref10.Same (a : List api.Scored) (b : List api.Scored) : Option Bool :=
 if (a.length : Int) = (b.length : Int) then
  (mewsref10.Same.loop0 a b ⟨0⟩).bind fun s81 => onSum s81 (fun s60 =>
   some true) fun s81x => some s81x
 else
  some false

noncomputable def mewsref19.Same (a : api.Value) (b : api.Value) : Option Bool :=
 (
  if a.Kind = b.Kind then
   if a.Text = b.Text then
    (mewsref19.texts a.List_ b.List_).bind fun r34 =>
    if r34 = true then
     (mewsref19.fields a.Hash b.Hash).bind fun r36 =>
     if r36 = true then
      (mewsref10.Same a.ZSet b.ZSet).bind fun r38 =>
      some r38
     else
      some false
    else
     some false
   else
    some false
  else
   some false).bind fun s29 =>
 some s29

noncomputable def mewsref19.List_ (l : List (List UInt8)) : Option api.Value :=
 if (l.length : Int) = 0 then
  some ({ Kind := 0, Text := ([] : List UInt8), List_ := ([] : List (List UInt8)), Hash := ([] : List api.Field), ZSet := ([] : List api.Scored) } : api.Value)
 else
  need ((([] : List (List UInt8)).length + l.length) * 16 ≤ 140737488355328) <|
  some ({ Kind := 2, Text := ([] : List UInt8), List_ := ([] : List (List UInt8)) ++ l, Hash := ([] : List api.Field), ZSet := ([] : List api.Scored) } : api.Value)

structure mewsref19.Put.S0 where
 i : Int

noncomputable def mewsref19.Put.body0 (l : List api.Field) (f : api.Field) (s144 : mewsref19.Put.S0) : Option (mewsref19.Put.S0 ⊕ Int) :=
 (
  if s144.i < (l.length : Int) then
   need (InB s144.i l.length) <|
   some (strLt (ix l s144.i).Key f.Key)
  else
   some false).bind fun s150 =>
 if s150 = true then
  some (.inl ⟨IntKind.wrap .i64 (s144.i + 1)⟩)
 else
  some (.inr s144.i)

noncomputable def mewsref19.Put.loop0 (l : List api.Field) (f : api.Field) (s144 : mewsref19.Put.S0) : Option Int := whileO (mewsref19.Put.body0 l f) s144

noncomputable def mewsref19.Put (l : List api.Field) (f : api.Field) : Option (List api.Field) :=
 (mewsref19.Put.loop0 l f ⟨0⟩).bind fun s123 =>
 need (InR 0 s123 l.length) <|
 need ((([] : List api.Field).length + (sub l 0 s123).length) * 32 ≤ 140737488355328) <|
 need (((([] : List api.Field) ++ (sub l 0 s123)).length + [f].length) * 32 ≤ 140737488355328) <|
 (
  (
   if s123 < (l.length : Int) then
    need (InB s123 l.length) <|
    some (decide ((ix l s123).Key = f.Key))
   else
    some false).bind fun s174 =>
  if s174 = true then
   some (IntKind.wrap .i64 (s123 + 1))
  else
   some s123).bind fun s169 =>
 need (InR s169 (l.length : Int) l.length) <|
 need ((((([] : List api.Field) ++ (sub l 0 s123)) ++ [f]).length + (sub l s169 (l.length : Int)).length) * 32 ≤ 140737488355328) <|
 some (((([] : List api.Field) ++ (sub l 0 s123)) ++ [f]) ++ (sub l s169 (l.length : Int)))

structure mewsref19.Hash.S0 where
 i : Int
 c : List api.Field

noncomputable def mewsref19.Hash.body0 (l : List api.Field) (s88 : mewsref19.Hash.S0) : Option (mewsref19.Hash.S0 ⊕ (List api.Field)) :=
 if s88.i < (l.length : Int) then
  need (InB s88.i l.length) <|
  (mewsref19.Put s88.c (ix l s88.i)).bind fun r94 =>
  some (.inl ⟨IntKind.wrap .i64 (s88.i + 1), r94⟩)
 else
  some (.inr s88.c)

noncomputable def mewsref19.Hash.loop0 (l : List api.Field) (s88 : mewsref19.Hash.S0) : Option (List api.Field) := whileO (mewsref19.Hash.body0 l) s88

noncomputable def mewsref19.Hash (l : List api.Field) : Option api.Value :=
 if (l.length : Int) = 0 then
  some ({ Kind := 0, Text := ([] : List UInt8), List_ := ([] : List (List UInt8)), Hash := ([] : List api.Field), ZSet := ([] : List api.Scored) } : api.Value)
 else
  (mewsref19.Hash.loop0 l ⟨0, ([] : List api.Field)⟩).bind fun s73 =>
  some ({ Kind := 3, Text := ([] : List UInt8), List_ := ([] : List (List UInt8)), Hash := s73, ZSet := ([] : List api.Scored) } : api.Value)

structure mewsref19.With.S0 where
 i : Int

noncomputable def mewsref19.With.body0 (l : List (List UInt8)) (s_ : List UInt8) (s131 : mewsref19.With.S0) : Option (mewsref19.With.S0 ⊕ Int) :=
 (
  if s131.i < (l.length : Int) then
   need (InB s131.i l.length) <|
   some (strLt (ix l s131.i) s_)
  else
   some false).bind fun s137 =>
 if s137 = true then
  some (.inl ⟨IntKind.wrap .i64 (s131.i + 1)⟩)
 else
  some (.inr s131.i)

noncomputable def mewsref19.With.loop0 (l : List (List UInt8)) (s_ : List UInt8) (s131 : mewsref19.With.S0) : Option Int := whileO (mewsref19.With.body0 l s_) s131

noncomputable def mewsref19.With (l : List (List UInt8)) (s_ : List UInt8) : Option (List (List UInt8)) :=
 (mewsref19.With.loop0 l s_ ⟨0⟩).bind fun s110 =>
 (
  if s110 < (l.length : Int) then
   need (InB s110 l.length) <|
   some (decide ((ix l s110) = s_))
  else
   some false).bind fun s145 =>
 if s145 = true then
  some l
 else
  need (InR 0 s110 l.length) <|
  need ((([] : List (List UInt8)).length + (sub l 0 s110).length) * 16 ≤ 140737488355328) <|
  need (((([] : List (List UInt8)) ++ (sub l 0 s110)).length + [s_].length) * 16 ≤ 140737488355328) <|
  need (InR s110 (l.length : Int) l.length) <|
  need ((((([] : List (List UInt8)) ++ (sub l 0 s110)) ++ [s_]).length + (sub l s110 (l.length : Int)).length) * 16 ≤ 140737488355328) <|
  some (((([] : List (List UInt8)) ++ (sub l 0 s110)) ++ [s_]) ++ (sub l s110 (l.length : Int)))

structure mewsref19.Set.S0 where
 i : Int
 c : List (List UInt8)

noncomputable def mewsref19.Set.body0 (l : List (List UInt8)) (s65 : mewsref19.Set.S0) : Option (mewsref19.Set.S0 ⊕ (List (List UInt8))) :=
 if s65.i < (l.length : Int) then
  need (InB s65.i l.length) <|
  (mewsref19.With s65.c (ix l s65.i)).bind fun r70 =>
  some (.inl ⟨IntKind.wrap .i64 (s65.i + 1), r70⟩)
 else
  some (.inr s65.c)

noncomputable def mewsref19.Set.loop0 (l : List (List UInt8)) (s65 : mewsref19.Set.S0) : Option (List (List UInt8)) := whileO (mewsref19.Set.body0 l) s65

noncomputable def mewsref19.Set (l : List (List UInt8)) : Option api.Value :=
 if (l.length : Int) = 0 then
  some ({ Kind := 0, Text := ([] : List UInt8), List_ := ([] : List (List UInt8)), Hash := ([] : List api.Field), ZSet := ([] : List api.Scored) } : api.Value)
 else
  (mewsref19.Set.loop0 l ⟨0, ([] : List (List UInt8))⟩).bind fun s54 =>
  some ({ Kind := 4, Text := ([] : List UInt8), List_ := s54, Hash := ([] : List api.Field), ZSet := ([] : List api.Scored) } : api.Value)

structure mewsref19.Out.S0 where
 out : List api.Scored
 i : Int

noncomputable def mewsref19.Out.body0 (l : List api.Scored) (member : List UInt8) (s208 : mewsref19.Out.S0) : Option (mewsref19.Out.S0 ⊕ (List api.Scored)) :=
 if s208.i < (l.length : Int) then
  (
   need (InB s208.i l.length) <|
   if (ix l s208.i).Member = member then
    some s208.out
   else
    need (InB s208.i l.length) <|
    need ((s208.out.length + [(ix l s208.i)].length) * 24 ≤ 140737488355328) <|
    some (s208.out ++ [(ix l s208.i)])).bind fun s218 =>
  some (.inl ⟨s218, IntKind.wrap .i64 (s208.i + 1)⟩)
 else
  some (.inr s208.out)

noncomputable def mewsref19.Out.loop0 (l : List api.Scored) (member : List UInt8) (s208 : mewsref19.Out.S0) : Option (List api.Scored) := whileO (mewsref19.Out.body0 l member) s208

noncomputable def mewsref19.Out (l : List api.Scored) (member : List UInt8) : Option (List api.Scored) :=
 (mewsref19.Out.loop0 l member ⟨([] : List api.Scored), 0⟩).bind fun s170 =>
 some s170

structure mewsref10.Rank.S0 where
 i : Int

noncomputable def mewsref10.Rank.body0 (l : List api.Scored) (x_ : api.Scored) (s63 : mewsref10.Rank.S0) : Option (mewsref10.Rank.S0 ⊕ (Unit ⊕ Int)) :=
 if s63.i < (l.length : Int) then
  need (InB s63.i l.length) <|
  if (ix l s63.i) = x_ then
   some (.inr (.inr s63.i))
  else
   some (.inl ⟨IntKind.wrap .i64 (s63.i + 1)⟩)
 else
  some (.inr (.inl ()))

noncomputable def mewsref10.Rank.loop0 (l : List api.Scored) (x_ : api.Scored) (s63 : mewsref10.Rank.S0) : Option (Unit ⊕ Int) := whileO (mewsref10.Rank.body0 l x_) s63

noncomputable def mewsref10.Rank (l : List api.Scored) (x_ : api.Scored) : Option Int :=
 (mewsref10.Rank.loop0 l x_ ⟨0⟩).bind fun s70 => onSum s70 (fun s52 =>
  some (-1)) fun s70x => some s70x

noncomputable def mewsref10.Less (a : api.Scored) (b : api.Scored) : Option Bool :=
 if a.Score = b.Score then
  some (strLt a.Member b.Member)
 else
  some (decide (a.Score < b.Score))

structure mewsref10.Ahead.S0 where
 n : Int
 i : Int

noncomputable def mewsref10.Ahead.body0 (l : List api.Scored) (x_ : api.Scored) (s139 : mewsref10.Ahead.S0) : Option (mewsref10.Ahead.S0 ⊕ Int) :=
 if s139.i < (l.length : Int) then
  (
   need (InB s139.i l.length) <|
   (mewsref10.Less (ix l s139.i) x_).bind fun r150 =>
   if r150 = true then
    some (IntKind.wrap .i64 (s139.n + 1))
   else
    some s139.n).bind fun s146 =>
  some (.inl ⟨s146, IntKind.wrap .i64 (s139.i + 1)⟩)
 else
  some (.inr s139.n)

noncomputable def mewsref10.Ahead.loop0 (l : List api.Scored) (x_ : api.Scored) (s139 : mewsref10.Ahead.S0) : Option Int := whileO (mewsref10.Ahead.body0 l x_) s139

noncomputable def mewsref10.Ahead (l : List api.Scored) (x_ : api.Scored) : Option Int :=
 (mewsref10.Ahead.loop0 l x_ ⟨0, 0⟩).bind fun s114 =>
 some s114

noncomputable def mewsref10.Put (l : List api.Scored) (x_ : api.Scored) : Option ((List api.Scored) × Bool) :=
 (mewsref10.Rank l x_).bind fun r14 =>
 if 0 ≤ r14 then
  some (l, false)
 else
  (mewsref10.Ahead l x_).bind fun r15 =>
  need (InR 0 r15 l.length) <|
  need ((([] : List api.Scored).length + (sub l 0 r15).length) * 24 ≤ 140737488355328) <|
  need (((([] : List api.Scored) ++ (sub l 0 r15)).length + [x_].length) * 24 ≤ 140737488355328) <|
  need (InR r15 (l.length : Int) l.length) <|
  need ((((([] : List api.Scored) ++ (sub l 0 r15)) ++ [x_]).length + (sub l r15 (l.length : Int)).length) * 24 ≤ 140737488355328) <|
  some (((([] : List api.Scored) ++ (sub l 0 r15)) ++ [x_]) ++ (sub l r15 (l.length : Int)), true)

noncomputable def mewsref19.Score (l : List api.Scored) (x_ : api.Scored) : Option (List api.Scored) :=
 (mewsref19.Out l x_.Member).bind fun r6 =>
 (mewsref10.Put r6 x_).bind fun r8 =>
 some r8.1

structure mewsref19.ZSet.S0 where
 i : Int
 c : List api.Scored

noncomputable def mewsref19.ZSet.body0 (l : List api.Scored) (s65 : mewsref19.ZSet.S0) : Option (mewsref19.ZSet.S0 ⊕ (List api.Scored)) :=
 if s65.i < (l.length : Int) then
  need (InB s65.i l.length) <|
  (mewsref19.Score s65.c (ix l s65.i)).bind fun r70 =>
  some (.inl ⟨IntKind.wrap .i64 (s65.i + 1), r70⟩)
 else
  some (.inr s65.c)

noncomputable def mewsref19.ZSet.loop0 (l : List api.Scored) (s65 : mewsref19.ZSet.S0) : Option (List api.Scored) := whileO (mewsref19.ZSet.body0 l) s65

noncomputable def mewsref19.ZSet (l : List api.Scored) : Option api.Value :=
 if (l.length : Int) = 0 then
  some ({ Kind := 0, Text := ([] : List UInt8), List_ := ([] : List (List UInt8)), Hash := ([] : List api.Field), ZSet := ([] : List api.Scored) } : api.Value)
 else
  (mewsref19.ZSet.loop0 l ⟨0, ([] : List api.Scored)⟩).bind fun s54 =>
  some ({ Kind := 5, Text := ([] : List UInt8), List_ := ([] : List (List UInt8)), Hash := ([] : List api.Field), ZSet := s54 } : api.Value)

noncomputable def mewsref19.May (v_ : api.Value) : Option Bool :=
 if v_.Kind = 1 then
  (mewsref19.Text v_.Text).bind fun r18 =>
  (mewsref19.Same v_ r18).bind fun r19 =>
  some r19
 else
  if v_.Kind = 2 then
   (mewsref19.List_ v_.List_).bind fun r20 =>
   (mewsref19.Same v_ r20).bind fun r21 =>
   some r21
  else
   if v_.Kind = 3 then
    (mewsref19.Hash v_.Hash).bind fun r22 =>
    (mewsref19.Same v_ r22).bind fun r23 =>
    some r23
   else
    if v_.Kind = 4 then
     (mewsref19.Set v_.List_).bind fun r24 =>
     (mewsref19.Same v_ r24).bind fun r25 =>
     some r25
    else
     if v_.Kind = 5 then
      (mewsref19.ZSet v_.ZSet).bind fun r26 =>
      (mewsref19.Same v_ r26).bind fun r27 =>
      some r27
     else
      some false

structure mewsref19.Of.S0 where
 n : Int
 i : Int

noncomputable def mewsref19.Of.body0 (e : api.Entry) (s276 : mewsref19.Of.S0) : Option (mewsref19.Of.S0 ⊕ Int) :=
 letO (
  if s276.i < (e.Val.List_.length : Int) then
   if e.Val.Kind = 2 then
    true
   else
    decide (e.Val.Kind = 4)
  else
   false) fun s282 =>
 if s282 = true then
  need (InB s276.i e.Val.List_.length) <|
  letO (IntKind.wrap .i64 (s276.n + (IntKind.wrap .i64 ((IntKind.wrap .i64 (8 + (IntKind.wrap .i64 (4 * e.Val.Kind)))) + ((ix e.Val.List_ s276.i).length : Int))))) fun x288 =>
  some (.inl ⟨x288, IntKind.wrap .i64 (s276.i + 1)⟩)
 else
  some (.inr s276.n)

noncomputable def mewsref19.Of.loop0 (e : api.Entry) (s276 : mewsref19.Of.S0) : Option Int := whileO (mewsref19.Of.body0 e) s276

structure mewsref19.Of.S2 where
 n : Int
 i : Int

noncomputable def mewsref19.Of.body2 (e : api.Entry) (s341 : mewsref19.Of.S2) : Option (mewsref19.Of.S2 ⊕ Int) :=
 letO (
  if s341.i < (e.Val.Hash.length : Int) then
   decide (e.Val.Kind = 3)
  else
   false) fun s346 =>
 if s346 = true then
  need (InB s341.i e.Val.Hash.length) <|
  need (InB s341.i e.Val.Hash.length) <|
  some (.inl ⟨IntKind.wrap .i64 (s341.n + (IntKind.wrap .i64 ((IntKind.wrap .i64 (32 + ((ix e.Val.Hash s341.i).Key.length : Int))) + ((ix e.Val.Hash s341.i).Val.length : Int)))), IntKind.wrap .i64 (s341.i + 1)⟩)
 else
  some (.inr s341.n)

noncomputable def mewsref19.Of.loop2 (e : api.Entry) (s341 : mewsref19.Of.S2) : Option Int := whileO (mewsref19.Of.body2 e) s341

structure mewsref19.Of.S4 where
 n : Int
 i : Int

noncomputable def mewsref19.Of.body4 (e : api.Entry) (s399 : mewsref19.Of.S4) : Option (mewsref19.Of.S4 ⊕ Int) :=
 letO (
  if s399.i < (e.Val.ZSet.length : Int) then
   decide (e.Val.Kind = 5)
  else
   false) fun s404 =>
 if s404 = true then
  need (InB s399.i e.Val.ZSet.length) <|
  some (.inl ⟨IntKind.wrap .i64 (s399.n + (IntKind.wrap .i64 (40 + ((ix e.Val.ZSet s399.i).Member.length : Int)))), IntKind.wrap .i64 (s399.i + 1)⟩)
 else
  some (.inr s399.n)

noncomputable def mewsref19.Of.loop4 (e : api.Entry) (s399 : mewsref19.Of.S4) : Option Int := whileO (mewsref19.Of.body4 e) s399

noncomputable def mewsref19.Of (e : api.Entry) : Option Int :=
 letO (
  if e.At = 0 then
   IntKind.wrap .i64 (56 + (e.Key.length : Int))
  else
   IntKind.wrap .i64 ((IntKind.wrap .i64 (56 + (e.Key.length : Int))) + 16)) fun s210 =>
 (mewsref19.Of.loop0 e ⟨s210, 0⟩).bind fun s251 =>
 (mewsref19.Of.loop2 e ⟨s251, 0⟩).bind fun s320 =>
 (mewsref19.Of.loop4 e ⟨s320, 0⟩).bind fun s380 =>
 letO (
  if e.Val.Kind = 1 then
   IntKind.wrap .i64 (s380 + (e.Val.Text.length : Int))
  else
   s380) fun s411 =>
 some s411

noncomputable def mewslaw19.ChargeValues (a : api.Value) (b : api.Value) (e : api.Entry) : Option Bool :=
 (
  (mewslaw19.Far [a, b, e.Val]).bind fun r58 =>
  if r58 = true then
   some true
  else
   some (decide (1000 < (e.Key.length : Int)))).bind fun s55 =>
 if s55 = true then
  (mewslaw19.alive).bind fun r60 =>
  some r60
 else
  (
   (charge.May a).bind fun r81 =>
   (mewsref19.May a).bind fun r82 =>
   if (r81 == r82) = true then
    (charge.Same a b).bind fun r84 =>
    (mewsref19.Same a b).bind fun r85 =>
    if (r84 == r85) = true then
     (charge.Same a a).bind fun r87 =>
     if r87 = true then
      (charge.Of e).bind fun r89 =>
      (mewsref19.Of e).bind fun r90 =>
      if r89 = r90 then
       (charge.All [e, e]).bind fun r92 =>
       (mewsref19.Of e).bind fun r93 =>
       if r92 = (IntKind.wrap .i64 (2 * r93)) then
        (charge.Name 2).bind fun r95 =>
        if r95 = [108, 105, 115, 116] then
         (mewslaw19.alive).bind fun r97 =>
         some r97
        else
         some false
       else
        some false
      else
       some false
     else
      some false
    else
     some false
   else
    some false).bind fun s78 =>
  some s78

end Go.Pu
