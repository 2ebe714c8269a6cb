/- Printed by lift.py: the functions over data. -/
import Derived.Test.YtjbphnophcpdeaaMBT
set_option maxRecDepth 100000
set_option maxHeartbeats 0
namespace Go.Pu
open Go.Lift

structure mewslaw23.far.S0 where
 n : Int
 t10 : Int

structure mewslaw23.far.S2 where
 t22 : Int

noncomputable def mewslaw23.far.body2 (l : List (List (List UInt8))) (s457 : mewslaw23.far.S0) (s490 : mewslaw23.far.S2) : Option (mewslaw23.far.S2 ⊕ (Unit ⊕ (mewslaw23.far.S0 ⊕ (Unit ⊕ Bool)))) :=
 if s490.t22 < ((ix l s457.t10).length : Int) then
  need (InB s490.t22 (ix l s457.t10).length) <|
  if 200 < ((ix (ix l s457.t10) s490.t22).length : Int) then
   some (.inr (.inr (.inr (.inr true))))
  else
   some (.inl ⟨IntKind.wrap .i64 (s490.t22 + 1)⟩)
 else
  some (.inr (.inl ()))

noncomputable def mewslaw23.far.loop2 (l : List (List (List UInt8))) (s457 : mewslaw23.far.S0) (s490 : mewslaw23.far.S2) : Option (Unit ⊕ (mewslaw23.far.S0 ⊕ (Unit ⊕ Bool))) := whileO (mewslaw23.far.body2 l s457) s490

noncomputable def mewslaw23.far.body0 (l : List (List (List UInt8))) (s457 : mewslaw23.far.S0) : Option (mewslaw23.far.S0 ⊕ (Unit ⊕ Bool)) :=
 if s457.t10 < (l.length : Int) then
  (
   need (InB s457.t10 l.length) <|
   if 300 < (IntKind.wrap .i64 (s457.n + ((ix l s457.t10).length : Int))) then
    some (.inr (.inr (.inr true)))
   else
    mewslaw23.far.loop2 l s457 ⟨0⟩).bind fun s498 => onSum s498 (fun s478 =>
   some (.inl ⟨IntKind.wrap .i64 (s457.n + ((ix l s457.t10).length : Int)), IntKind.wrap .i64 (s457.t10 + 1)⟩)) fun s498x => some s498x
 else
  some (.inr (.inl ()))

noncomputable def mewslaw23.far.loop0 (l : List (List (List UInt8))) (s457 : mewslaw23.far.S0) : Option (Unit ⊕ Bool) := whileO (mewslaw23.far.body0 l) s457

noncomputable def mewslaw23.far (l : List (List (List UInt8))) : Option Bool :=
 (mewslaw23.far.loop0 l ⟨0, 0⟩).bind fun s500 => onSum s500 (fun s374 =>
  some (decide (20 < (l.length : Int)))) fun s500x => some s500x

noncomputable def member.Union_1 (a0_ : Int) (a1_ : Bool) : Option Bool :=
 some true

structure member.merge_member_Union_1.S0 where
 out : List (List UInt8)
 v : List Int

structure member.merge_member_Union_1.S2 where
 least : List UInt8
 some_ : Bool
 t18 : Int

noncomputable def member.merge_member_Union_1.body2 (l : List (List (List UInt8))) (s3272 : member.merge_member_Union_1.S0) (s3528 : member.merge_member_Union_1.S2) : Option (member.merge_member_Union_1.S2 ⊕ ((List UInt8) × Bool)) :=
 if s3528.t18 < (l.length : Int) then
  (
   (
    need (InB s3528.t18 s3272.v.length) <|
    need (InB s3528.t18 s3272.v.length) <|
    need (InB s3528.t18 l.length) <|
    if (ix s3272.v s3528.t18) < ((ix l s3528.t18).length : Int) then
     if (!s3528.some_) = true then
      some true
     else
      need (InB s3528.t18 l.length) <|
      need (InB s3528.t18 s3272.v.length) <|
      need (InB s3528.t18 s3272.v.length) <|
      need (InB (ix s3272.v s3528.t18) (ix l s3528.t18).length) <|
      some (strLt (ix (ix l s3528.t18) (ix s3272.v s3528.t18)) s3528.least)
    else
     some false).bind fun s3570 =>
   if s3570 = true then
    need (InB s3528.t18 l.length) <|
    need (InB s3528.t18 s3272.v.length) <|
    need (InB s3528.t18 s3272.v.length) <|
    need (InB (ix s3272.v s3528.t18) (ix l s3528.t18).length) <|
    some (ix (ix l s3528.t18) (ix s3272.v s3528.t18), true)
   else
    some (s3528.least, s3528.some_)).bind fun s3558 =>
  some (.inl ⟨s3558.1, s3558.2, IntKind.wrap .i64 (s3528.t18 + 1)⟩)
 else
  some (.inr (s3528.least, s3528.some_))

noncomputable def member.merge_member_Union_1.loop2 (l : List (List (List UInt8))) (s3272 : member.merge_member_Union_1.S0) (s3528 : member.merge_member_Union_1.S2) : Option ((List UInt8) × Bool) := whileO (member.merge_member_Union_1.body2 l s3272) s3528

structure member.merge_member_Union_1.S4 where
 n : Int
 first : Bool
 t65 : Int
 v : List Int

noncomputable def member.merge_member_Union_1.body4 (l : List (List (List UInt8))) (s3431 : (List UInt8) × Bool) (s3865 : member.merge_member_Union_1.S4) : Option (member.merge_member_Union_1.S4 ⊕ (Int × Bool × (List Int))) :=
 if s3865.t65 < (l.length : Int) then
  (
   (
    need (InB s3865.t65 s3865.v.length) <|
    need (InB s3865.t65 s3865.v.length) <|
    need (InB s3865.t65 l.length) <|
    if (ix s3865.v s3865.t65) < ((ix l s3865.t65).length : Int) then
     need (InB s3865.t65 l.length) <|
     need (InB s3865.t65 s3865.v.length) <|
     need (InB s3865.t65 s3865.v.length) <|
     need (InB (ix s3865.v s3865.t65) (ix l s3865.t65).length) <|
     some (decide ((ix (ix l s3865.t65) (ix s3865.v s3865.t65)) = s3431.1))
    else
     some false).bind fun s3905 =>
   if s3905 = true then
    need (InB s3865.t65 s3865.v.length) <|
    need (InB s3865.t65 s3865.v.length) <|
    need (InB s3865.t65 s3865.v.length) <|
    need (InB s3865.t65 s3865.v.length) <|
    if s3865.first = true then
     some (IntKind.wrap .i64 (s3865.n + 1), true, upd s3865.v s3865.t65 (IntKind.wrap .i64 ((ix s3865.v s3865.t65) + 1)))
    else
     some (IntKind.wrap .i64 (s3865.n + 1), decide (s3865.t65 = 0), upd s3865.v s3865.t65 (IntKind.wrap .i64 ((ix s3865.v s3865.t65) + 1)))
   else
    some (s3865.n, s3865.first, s3865.v)).bind fun s3894 =>
  some (.inl ⟨s3894.1, s3894.2.1, IntKind.wrap .i64 (s3865.t65 + 1), s3894.2.2⟩)
 else
  some (.inr (s3865.n, s3865.first, s3865.v))

noncomputable def member.merge_member_Union_1.loop4 (l : List (List (List UInt8))) (s3431 : (List UInt8) × Bool) (s3865 : member.merge_member_Union_1.S4) : Option (Int × Bool × (List Int)) := whileO (member.merge_member_Union_1.body4 l s3431) s3865

noncomputable def member.merge_member_Union_1.body0 (l : List (List (List UInt8))) (s3272 : member.merge_member_Union_1.S0) : Option (member.merge_member_Union_1.S0 ⊕ (List (List UInt8))) :=
 (member.merge_member_Union_1.loop2 l s3272 ⟨([] : List UInt8), false, 0⟩).bind fun s3431 =>
 if (!s3431.2) = true then
  some (.inr s3272.out)
 else
  (member.merge_member_Union_1.loop4 l s3431 ⟨0, false, 0, s3272.v⟩).bind fun s3754 =>
  (member.Union_1 s3754.1 s3754.2.1).bind fun r3923 =>
  if r3923 = true then
   need ((s3272.out.length + [s3431.1].length) * 16 ≤ 140737488355328) <|
   some (.inl ⟨s3272.out ++ [s3431.1], s3754.2.2⟩)
  else
   some (.inl ⟨s3272.out, s3754.2.2⟩)

noncomputable def member.merge_member_Union_1.loop0 (l : List (List (List UInt8))) (s3272 : member.merge_member_Union_1.S0) : Option (List (List UInt8)) := whileO (member.merge_member_Union_1.body0 l) s3272

noncomputable def member.merge_member_Union_1 (l : List (List (List UInt8))) : Option (List (List UInt8)) :=
 need (Room (l.length : Int) 8) <|
 member.merge_member_Union_1.loop0 l ⟨([] : List (List UInt8)), List.replicate (Int.toNat (l.length : Int)) (0 : Int)⟩

noncomputable def member.Union (l : List (List (List UInt8))) : Option (List (List UInt8)) :=
 (member.merge_member_Union_1 l).bind fun r3 =>
 some r3

structure mewsref02.Same.S0 where
 i : Int

noncomputable def mewsref02.Same.body0 (a : List (List UInt8)) (b : List (List UInt8)) (s73 : mewsref02.Same.S0) : Option (mewsref02.Same.S0 ⊕ (Unit ⊕ Bool)) :=
 if s73.i < (a.length : Int) then
  need (InB s73.i a.length) <|
  need (InB s73.i b.length) <|
  if (ix a s73.i) = (ix b s73.i) then
   some (.inl ⟨IntKind.wrap .i64 (s73.i + 1)⟩)
  else
   some (.inr (.inr false))
 else
  some (.inr (.inl ()))

noncomputable def mewsref02.Same.loop0 (a : List (List UInt8)) (b : List (List UInt8)) (s73 : mewsref02.Same.S0) : Option (Unit ⊕ Bool) := whileO (mewsref02.Same.body0 a b) s73

noncomputable def mewsref02.Same (a : List (List UInt8)) (b : List (List UInt8)) : Option Bool :=
 if (a.length : Int) = (b.length : Int) then
  (mewsref02.Same.loop0 a b ⟨0⟩).bind fun s81 => onSum s81 (fun s60 =>
   some true) fun s81x => some s81x
 else
  some false

noncomputable def member.Inter_1 (n_ : Int) (a1_ : Bool) (a2_ : List (List (List UInt8))) : Option Bool :=
 some (decide (n_ = (a2_.length : Int)))

structure member.merge_member_Inter_1.S0 where
 out : List (List UInt8)
 v : List Int

structure member.merge_member_Inter_1.S2 where
 least : List UInt8
 some_ : Bool
 t18 : Int

noncomputable def member.merge_member_Inter_1.body2 (l : List (List (List UInt8))) (s3272 : member.merge_member_Inter_1.S0) (s3528 : member.merge_member_Inter_1.S2) : Option (member.merge_member_Inter_1.S2 ⊕ ((List UInt8) × Bool)) :=
 if s3528.t18 < (l.length : Int) then
  (
   (
    need (InB s3528.t18 s3272.v.length) <|
    need (InB s3528.t18 s3272.v.length) <|
    need (InB s3528.t18 l.length) <|
    if (ix s3272.v s3528.t18) < ((ix l s3528.t18).length : Int) then
     if (!s3528.some_) = true then
      some true
     else
      need (InB s3528.t18 l.length) <|
      need (InB s3528.t18 s3272.v.length) <|
      need (InB s3528.t18 s3272.v.length) <|
      need (InB (ix s3272.v s3528.t18) (ix l s3528.t18).length) <|
      some (strLt (ix (ix l s3528.t18) (ix s3272.v s3528.t18)) s3528.least)
    else
     some false).bind fun s3570 =>
   if s3570 = true then
    need (InB s3528.t18 l.length) <|
    need (InB s3528.t18 s3272.v.length) <|
    need (InB s3528.t18 s3272.v.length) <|
    need (InB (ix s3272.v s3528.t18) (ix l s3528.t18).length) <|
    some (ix (ix l s3528.t18) (ix s3272.v s3528.t18), true)
   else
    some (s3528.least, s3528.some_)).bind fun s3558 =>
  some (.inl ⟨s3558.1, s3558.2, IntKind.wrap .i64 (s3528.t18 + 1)⟩)
 else
  some (.inr (s3528.least, s3528.some_))

noncomputable def member.merge_member_Inter_1.loop2 (l : List (List (List UInt8))) (s3272 : member.merge_member_Inter_1.S0) (s3528 : member.merge_member_Inter_1.S2) : Option ((List UInt8) × Bool) := whileO (member.merge_member_Inter_1.body2 l s3272) s3528

structure member.merge_member_Inter_1.S4 where
 n : Int
 first : Bool
 t65 : Int
 v : List Int

noncomputable def member.merge_member_Inter_1.body4 (l : List (List (List UInt8))) (s3431 : (List UInt8) × Bool) (s3865 : member.merge_member_Inter_1.S4) : Option (member.merge_member_Inter_1.S4 ⊕ (Int × Bool × (List Int))) :=
 if s3865.t65 < (l.length : Int) then
  (
   (
    need (InB s3865.t65 s3865.v.length) <|
    need (InB s3865.t65 s3865.v.length) <|
    need (InB s3865.t65 l.length) <|
    if (ix s3865.v s3865.t65) < ((ix l s3865.t65).length : Int) then
     need (InB s3865.t65 l.length) <|
     need (InB s3865.t65 s3865.v.length) <|
     need (InB s3865.t65 s3865.v.length) <|
     need (InB (ix s3865.v s3865.t65) (ix l s3865.t65).length) <|
     some (decide ((ix (ix l s3865.t65) (ix s3865.v s3865.t65)) = s3431.1))
    else
     some false).bind fun s3905 =>
   if s3905 = true then
    need (InB s3865.t65 s3865.v.length) <|
    need (InB s3865.t65 s3865.v.length) <|
    need (InB s3865.t65 s3865.v.length) <|
    need (InB s3865.t65 s3865.v.length) <|
    if s3865.first = true then
     some (IntKind.wrap .i64 (s3865.n + 1), true, upd s3865.v s3865.t65 (IntKind.wrap .i64 ((ix s3865.v s3865.t65) + 1)))
    else
     some (IntKind.wrap .i64 (s3865.n + 1), decide (s3865.t65 = 0), upd s3865.v s3865.t65 (IntKind.wrap .i64 ((ix s3865.v s3865.t65) + 1)))
   else
    some (s3865.n, s3865.first, s3865.v)).bind fun s3894 =>
  some (.inl ⟨s3894.1, s3894.2.1, IntKind.wrap .i64 (s3865.t65 + 1), s3894.2.2⟩)
 else
  some (.inr (s3865.n, s3865.first, s3865.v))

noncomputable def member.merge_member_Inter_1.loop4 (l : List (List (List UInt8))) (s3431 : (List UInt8) × Bool) (s3865 : member.merge_member_Inter_1.S4) : Option (Int × Bool × (List Int)) := whileO (member.merge_member_Inter_1.body4 l s3431) s3865

noncomputable def member.merge_member_Inter_1.body0 (l : List (List (List UInt8))) (b0_ : List (List (List UInt8))) (s3272 : member.merge_member_Inter_1.S0) : Option (member.merge_member_Inter_1.S0 ⊕ (List (List UInt8))) :=
 (member.merge_member_Inter_1.loop2 l s3272 ⟨([] : List UInt8), false, 0⟩).bind fun s3431 =>
 if (!s3431.2) = true then
  some (.inr s3272.out)
 else
  (member.merge_member_Inter_1.loop4 l s3431 ⟨0, false, 0, s3272.v⟩).bind fun s3754 =>
  (member.Inter_1 s3754.1 s3754.2.1 b0_).bind fun r3923 =>
  if r3923 = true then
   need ((s3272.out.length + [s3431.1].length) * 16 ≤ 140737488355328) <|
   some (.inl ⟨s3272.out ++ [s3431.1], s3754.2.2⟩)
  else
   some (.inl ⟨s3272.out, s3754.2.2⟩)

noncomputable def member.merge_member_Inter_1.loop0 (l : List (List (List UInt8))) (b0_ : List (List (List UInt8))) (s3272 : member.merge_member_Inter_1.S0) : Option (List (List UInt8)) := whileO (member.merge_member_Inter_1.body0 l b0_) s3272

noncomputable def member.merge_member_Inter_1 (l : List (List (List UInt8))) (b0_ : List (List (List UInt8))) : Option (List (List UInt8)) :=
 need (Room (l.length : Int) 8) <|
 member.merge_member_Inter_1.loop0 l b0_ ⟨([] : List (List UInt8)), List.replicate (Int.toNat (l.length : Int)) (0 : Int)⟩

noncomputable def member.Inter (l : List (List (List UInt8))) : Option (List (List UInt8)) :=
 (member.merge_member_Inter_1 l l).bind fun r5 =>
 some r5

noncomputable def member.Diff_1 (n_ : Int) (first : Bool) : Option Bool :=
 letO (
  if first = true then
   decide (n_ = 1)
  else
   false) fun s7 =>
 some s7

structure member.merge_member_Diff_1.S0 where
 out : List (List UInt8)
 v : List Int

structure member.merge_member_Diff_1.S2 where
 least : List UInt8
 some_ : Bool
 t18 : Int

noncomputable def member.merge_member_Diff_1.body2 (l : List (List (List UInt8))) (s3272 : member.merge_member_Diff_1.S0) (s3528 : member.merge_member_Diff_1.S2) : Option (member.merge_member_Diff_1.S2 ⊕ ((List UInt8) × Bool)) :=
 if s3528.t18 < (l.length : Int) then
  (
   (
    need (InB s3528.t18 s3272.v.length) <|
    need (InB s3528.t18 s3272.v.length) <|
    need (InB s3528.t18 l.length) <|
    if (ix s3272.v s3528.t18) < ((ix l s3528.t18).length : Int) then
     if (!s3528.some_) = true then
      some true
     else
      need (InB s3528.t18 l.length) <|
      need (InB s3528.t18 s3272.v.length) <|
      need (InB s3528.t18 s3272.v.length) <|
      need (InB (ix s3272.v s3528.t18) (ix l s3528.t18).length) <|
      some (strLt (ix (ix l s3528.t18) (ix s3272.v s3528.t18)) s3528.least)
    else
     some false).bind fun s3570 =>
   if s3570 = true then
    need (InB s3528.t18 l.length) <|
    need (InB s3528.t18 s3272.v.length) <|
    need (InB s3528.t18 s3272.v.length) <|
    need (InB (ix s3272.v s3528.t18) (ix l s3528.t18).length) <|
    some (ix (ix l s3528.t18) (ix s3272.v s3528.t18), true)
   else
    some (s3528.least, s3528.some_)).bind fun s3558 =>
  some (.inl ⟨s3558.1, s3558.2, IntKind.wrap .i64 (s3528.t18 + 1)⟩)
 else
  some (.inr (s3528.least, s3528.some_))

noncomputable def member.merge_member_Diff_1.loop2 (l : List (List (List UInt8))) (s3272 : member.merge_member_Diff_1.S0) (s3528 : member.merge_member_Diff_1.S2) : Option ((List UInt8) × Bool) := whileO (member.merge_member_Diff_1.body2 l s3272) s3528

structure member.merge_member_Diff_1.S4 where
 n : Int
 first : Bool
 t65 : Int
 v : List Int

noncomputable def member.merge_member_Diff_1.body4 (l : List (List (List UInt8))) (s3431 : (List UInt8) × Bool) (s3865 : member.merge_member_Diff_1.S4) : Option (member.merge_member_Diff_1.S4 ⊕ (Int × Bool × (List Int))) :=
 if s3865.t65 < (l.length : Int) then
  (
   (
    need (InB s3865.t65 s3865.v.length) <|
    need (InB s3865.t65 s3865.v.length) <|
    need (InB s3865.t65 l.length) <|
    if (ix s3865.v s3865.t65) < ((ix l s3865.t65).length : Int) then
     need (InB s3865.t65 l.length) <|
     need (InB s3865.t65 s3865.v.length) <|
     need (InB s3865.t65 s3865.v.length) <|
     need (InB (ix s3865.v s3865.t65) (ix l s3865.t65).length) <|
     some (decide ((ix (ix l s3865.t65) (ix s3865.v s3865.t65)) = s3431.1))
    else
     some false).bind fun s3905 =>
   if s3905 = true then
    need (InB s3865.t65 s3865.v.length) <|
    need (InB s3865.t65 s3865.v.length) <|
    need (InB s3865.t65 s3865.v.length) <|
    need (InB s3865.t65 s3865.v.length) <|
    if s3865.first = true then
     some (IntKind.wrap .i64 (s3865.n + 1), true, upd s3865.v s3865.t65 (IntKind.wrap .i64 ((ix s3865.v s3865.t65) + 1)))
    else
     some (IntKind.wrap .i64 (s3865.n + 1), decide (s3865.t65 = 0), upd s3865.v s3865.t65 (IntKind.wrap .i64 ((ix s3865.v s3865.t65) + 1)))
   else
    some (s3865.n, s3865.first, s3865.v)).bind fun s3894 =>
  some (.inl ⟨s3894.1, s3894.2.1, IntKind.wrap .i64 (s3865.t65 + 1), s3894.2.2⟩)
 else
  some (.inr (s3865.n, s3865.first, s3865.v))

noncomputable def member.merge_member_Diff_1.loop4 (l : List (List (List UInt8))) (s3431 : (List UInt8) × Bool) (s3865 : member.merge_member_Diff_1.S4) : Option (Int × Bool × (List Int)) := whileO (member.merge_member_Diff_1.body4 l s3431) s3865

noncomputable def member.merge_member_Diff_1.body0 (l : List (List (List UInt8))) (s3272 : member.merge_member_Diff_1.S0) : Option (member.merge_member_Diff_1.S0 ⊕ (List (List UInt8))) :=
 (member.merge_member_Diff_1.loop2 l s3272 ⟨([] : List UInt8), false, 0⟩).bind fun s3431 =>
 if (!s3431.2) = true then
  some (.inr s3272.out)
 else
  (member.merge_member_Diff_1.loop4 l s3431 ⟨0, false, 0, s3272.v⟩).bind fun s3754 =>
  (member.Diff_1 s3754.1 s3754.2.1).bind fun r3923 =>
  if r3923 = true then
   need ((s3272.out.length + [s3431.1].length) * 16 ≤ 140737488355328) <|
   some (.inl ⟨s3272.out ++ [s3431.1], s3754.2.2⟩)
  else
   some (.inl ⟨s3272.out, s3754.2.2⟩)

noncomputable def member.merge_member_Diff_1.loop0 (l : List (List (List UInt8))) (s3272 : member.merge_member_Diff_1.S0) : Option (List (List UInt8)) := whileO (member.merge_member_Diff_1.body0 l) s3272

noncomputable def member.merge_member_Diff_1 (l : List (List (List UInt8))) : Option (List (List UInt8)) :=
 need (Room (l.length : Int) 8) <|
 member.merge_member_Diff_1.loop0 l ⟨([] : List (List UInt8)), List.replicate (Int.toNat (l.length : Int)) (0 : Int)⟩

noncomputable def member.Diff (l : List (List (List UInt8))) : Option (List (List UInt8)) :=
 (member.merge_member_Diff_1 l).bind fun r3 =>
 some r3

noncomputable def mewslaw23.alive  : Option Bool :=
 (
  (member.Union [[[97], [98]], [[98], [99]]]).bind fun r40 =>
  (mewsref02.Same r40 [[97], [98], [99]]).bind fun r42 =>
  if r42 = true then
   (member.Inter [[[97], [98]], [[98], [99]]]).bind fun r44 =>
   (mewsref02.Same r44 [[98]]).bind fun r46 =>
   if r46 = true then
    (member.Diff [[[97], [98]], [[98], [99]]]).bind fun r48 =>
    (mewsref02.Same r48 [[97]]).bind fun r50 =>
    some r50
   else
    some false
  else
   some false).bind fun s37 =>
 some s37

noncomputable def dict.empty_bool (size : Int) (mem : Reg) : Option (dict.places_bool × Reg) :=
 need ((0 : Int) ≤ size) <|
 need (Room (IntKind.wrap .i64 (1 * 2 ^ min (Int.toNat size) (IntKind.bits .i64))) 8) <|
 letO (mem ++ [List.replicate (Int.toNat (IntKind.wrap .i64 (1 * 2 ^ min (Int.toNat size) (IntKind.bits .i64)))) (.pt (none : RP))]) fun x8 =>
 some (({ size := size, l := (some (mem.length, 0, Int.toNat (IntKind.wrap .i64 (1 * 2 ^ min (Int.toNat size) (IntKind.bits .i64))), Int.toNat (IntKind.wrap .i64 (1 * 2 ^ min (Int.toNat size) (IntKind.bits .i64)))) : RS) } : dict.places_bool), x8)

noncomputable def dict.New_bool (seed : Int) (mem : Reg) : Option (RP × Reg) :=
 (dict.empty_bool 2 mem).bind fun r3 =>
 letO (r3.2 ++ [[.it .u64 seed, .it .i64 r3.1.size, .sc r3.1.l, .it .i64 0, .sc (none : RS), .it .i64 0, .bo false, .it .i64 0]]) fun x4 =>
 some ((some (r3.2.length, 0) : RP), x4)

noncomputable def dict.Table_bool.ready (t_ : RP) (mem : Reg) : Option (Bool × Reg) :=
 (
  (
   if t_.isSome = true then
    need (t_.isSome = true) <|
    need ((rpAdd t_ 1).isSome = true) <|
    need (InB 0 2) <|
    need ((rpAdd (rpAdd t_ 1) 0).isSome = true) <|
    (rLdL mem (rpAdd (rpAdd (rpAdd t_ 1) 0) 1)).bind fun r108 =>
    some r108.isNone
   else
    some false).bind fun s100 =>
  if s100 = true then
   need (t_.isSome = true) <|
   (rLdI .u64 mem (rpAdd t_ 0)).bind fun r110 =>
   (dict.New_bool r110 mem).bind fun r111 =>
   need (r111.1.isSome = true) <|
   (rLdI .u64 r111.2 (rpAdd r111.1 0)).bind fun r113 =>
   (rLdI .i64 r111.2 (rpAdd r111.1 1)).bind fun r114 =>
   (rLdL r111.2 (rpAdd r111.1 2)).bind fun r115 =>
   (rLdI .i64 r111.2 (rpAdd r111.1 3)).bind fun r116 =>
   (rLdL r111.2 (rpAdd r111.1 4)).bind fun r117 =>
   (rLdI .i64 r111.2 (rpAdd r111.1 5)).bind fun r118 =>
   (rLdB r111.2 (rpAdd r111.1 6)).bind fun r119 =>
   (rLdI .i64 r111.2 (rpAdd r111.1 7)).bind fun r120 =>
   (rSto r111.2 t_ [.it .u64 r113, .it .i64 r114, .sc r115, .it .i64 r116, .sc r117, .it .i64 r118, .bo r119, .it .i64 r120]).bind fun r121 =>
   some r121
  else
   some mem).bind fun s91 =>
 some (t_.isSome, s91)

structure hash.Of.S0 where
 h : Int
 t13 : Int

noncomputable def hash.Of.body0 (s_ : List UInt8) (s86 : hash.Of.S0) : Option (hash.Of.S0 ⊕ Int) :=
 if s86.t13 < (s_.length : Int) then
  need (InB s86.t13 s_.length) <|
  some (.inl ⟨IntKind.wrap .u64 ((Go.bits .xor .u64 s86.h (IntKind.wrap .u64 (bix s_ s86.t13))) * 1099511628211), IntKind.wrap .i64 (s86.t13 + 1)⟩)
 else
  some (.inr s86.h)

noncomputable def hash.Of.loop0 (s_ : List UInt8) (s86 : hash.Of.S0) : Option Int := whileO (hash.Of.body0 s_) s86

structure hash.Of.S2 where
 h : Int
 t25 : Int

noncomputable def hash.Of.body2  (s118 : hash.Of.S2) : Option (hash.Of.S2 ⊕ Int) :=
 if s118.t25 < 3 then
  need (InB s118.t25 3) <|
  letO (IntKind.wrap .u64 ((Go.bits .xor .u64 s118.h (s118.h / 2 ^ min (Int.toNat 33) (IntKind.bits .u64))) * (ix ([18397679294719823053, 14181476777654086739, 1] : List Int) s118.t25))) fun x123 =>
  some (.inl ⟨x123, IntKind.wrap .i64 (s118.t25 + 1)⟩)
 else
  some (.inr s118.h)

noncomputable def hash.Of.loop2  (s118 : hash.Of.S2) : Option Int := whileO (hash.Of.body2 ) s118

noncomputable def hash.Of (seed : Int) (s_ : List UInt8) : Option Int :=
 (hash.Of.loop0 s_ ⟨Go.bits .xor .u64 14695981039346656037 seed, 0⟩).bind fun s76 =>
 (hash.Of.loop2  ⟨s76, 0⟩).bind fun s107 =>
 some s107

noncomputable def hash.size (b : Int) : Option Int :=
 some (if 16 < (if b < 0 then 0 else b) then 16 else (if b < 0 then 0 else b))

noncomputable def hash.low (n_ : Int) (b : Int) : Option Int :=
 (hash.size b).bind fun r3 =>
 need ((0 : Int) ≤ r3) <|
 some (Go.bits .and .u64 n_ (IntKind.wrap .u64 ((IntKind.wrap .u64 (1 * 2 ^ min (Int.toNat r3) (IntKind.bits .u64))) - 1)))

noncomputable def hash.Place (h_ : Int) (b : Int) : Option Int :=
 (hash.low h_ b).bind fun r2 =>
 some (IntKind.wrap .i64 r2)

noncomputable def dict.Table_bool.slot (t_ : RP) (k_ : Int) (key : List UInt8) (mem : Reg) : Option RP :=
 need (t_.isSome = true) <|
 need ((rpAdd t_ 1).isSome = true) <|
 need (InB k_ 2) <|
 need ((rpAdd (rpAdd t_ 1) (Int.toNat k_ * 2)).isSome = true) <|
 (rLdL mem (rpAdd (rpAdd (rpAdd t_ 1) (Int.toNat k_ * 2)) 1)).bind fun r15 =>
 (rLdI .u64 mem (rpAdd t_ 0)).bind fun r16 =>
 (hash.Of r16 key).bind fun r17 =>
 (rLdI .i64 mem (rpAdd (rpAdd (rpAdd t_ 1) (Int.toNat k_ * 2)) 0)).bind fun r18 =>
 (hash.Place r17 r18).bind fun r19 =>
 need (InB r19 (rsLen r15)) <|
 some (rsPtr r15 r19 1)

noncomputable def dict.Table_bool.front (t_ : RP) (k_ : Int) (x_ : RP) (mem : Reg) : Option Reg :=
 need (x_.isSome = true) <|
 (rLdS mem (rpAdd x_ 0)).bind fun r9 =>
 (dict.Table_bool.slot t_ k_ r9 mem).bind fun r10 =>
 need (r10.isSome = true) <|
 (rLdP mem r10).bind fun r12 =>
 (rSto mem (rpAdd x_ 2) [.pt r12]).bind fun r13 =>
 (rSto r13 r10 [.pt x_]).bind fun r14 =>
 some r14

structure dict.Table_bool.step.S0 where
 x : RP
 mem : Reg

noncomputable def dict.Table_bool.step.body0 (t_ : RP) (s133 : dict.Table_bool.step.S0) : Option (dict.Table_bool.step.S0 ⊕ Reg) :=
 if s133.x.isSome = true then
  need (s133.x.isSome = true) <|
  (rLdP s133.mem (rpAdd s133.x 2)).bind fun r138 =>
  (dict.Table_bool.front t_ 1 s133.x s133.mem).bind fun r139 =>
  some (.inl ⟨r138, r139⟩)
 else
  some (.inr s133.mem)

noncomputable def dict.Table_bool.step.loop0 (t_ : RP) (s133 : dict.Table_bool.step.S0) : Option Reg := whileO (dict.Table_bool.step.body0 t_) s133

noncomputable def dict.Table_bool.step (t_ : RP) (mem : Reg) : Option (Bool × Reg) :=
 need (t_.isSome = true) <|
 (rLdB mem (rpAdd t_ 6)).bind fun r89 =>
 if (!r89) = true then
  some (false, mem)
 else
  need ((rpAdd t_ 1).isSome = true) <|
  need (InB 0 2) <|
  need ((rpAdd (rpAdd t_ 1) 0).isSome = true) <|
  (rLdL mem (rpAdd (rpAdd (rpAdd t_ 1) 0) 1)).bind fun r93 =>
  (rLdI .i64 mem (rpAdd t_ 5)).bind fun r94 =>
  need (InB r94 (rsLen r93)) <|
  (rLdP mem (rsPtr r93 r94 1)).bind fun r96 =>
  need (InB 0 2) <|
  (rLdL mem (rpAdd (rpAdd (rpAdd t_ 1) 0) 1)).bind fun r98 =>
  (rLdI .i64 mem (rpAdd t_ 5)).bind fun r99 =>
  need (InB r99 (rsLen r98)) <|
  (rSto mem (rsPtr r98 r99 1) [.pt (none : RP)]).bind fun r101 =>
  (dict.Table_bool.step.loop0 t_ ⟨r96, r101⟩).bind fun s120 =>
  (
   need (t_.isSome = true) <|
   (rLdI .i64 s120 (rpAdd t_ 5)).bind fun r160 =>
   (rSto s120 (rpAdd t_ 5) [.it .i64 (IntKind.wrap .i64 (r160 + 1))]).bind fun r161 =>
   (rLdI .i64 r161 (rpAdd t_ 5)).bind fun r162 =>
   need ((rpAdd t_ 1).isSome = true) <|
   need (InB 0 2) <|
   need ((rpAdd (rpAdd t_ 1) 0).isSome = true) <|
   (rLdL r161 (rpAdd (rpAdd (rpAdd t_ 1) 0) 1)).bind fun r166 =>
   if r162 = (rsLen r166 : Int) then
    need (InB 1 2) <|
    (rLdI .i64 r161 (rpAdd (rpAdd (rpAdd t_ 1) 2) 0)).bind fun r168 =>
    (rLdL r161 (rpAdd (rpAdd (rpAdd t_ 1) 2) 1)).bind fun r169 =>
    (rSto r161 (rpAdd t_ 1) [.it .i64 r168, .sc r169, .it .i64 0, .sc (none : RS)]).bind fun r170 =>
    (rSto r170 (rpAdd t_ 6) [.bo false]).bind fun r171 =>
    (rSto r171 (rpAdd t_ 5) [.it .i64 0]).bind fun r172 =>
    some r172
   else
    some r161).bind fun s156 =>
  some (true, s156)

structure dict.Table_bool.find.S0 where
 t7 : Int

structure dict.Table_bool.find.S2 where
 at_ : RP

noncomputable def dict.Table_bool.find.body2 (mem : Reg) (key : List UInt8) (s1132 : dict.Table_bool.find.S2) : Option (dict.Table_bool.find.S2 ⊕ (Unit ⊕ (dict.Table_bool.find.S0 ⊕ (Unit ⊕ RP)))) :=
 need (s1132.at_.isSome = true) <|
 (rLdP mem s1132.at_).bind fun r1137 =>
 if r1137.isSome = true then
  (rLdP mem s1132.at_).bind fun r1138 =>
  need (r1138.isSome = true) <|
  (rLdS mem (rpAdd r1138 0)).bind fun r1140 =>
  if r1140 = key then
   some (.inr (.inr (.inr (.inr s1132.at_))))
  else
   (rLdP mem s1132.at_).bind fun r1141 =>
   need (r1141.isSome = true) <|
   some (.inl ⟨rpAdd r1141 2⟩)
 else
  some (.inr (.inl ()))

noncomputable def dict.Table_bool.find.loop2 (mem : Reg) (key : List UInt8) (s1132 : dict.Table_bool.find.S2) : Option (Unit ⊕ (dict.Table_bool.find.S0 ⊕ (Unit ⊕ RP))) := whileO (dict.Table_bool.find.body2 mem key) s1132

noncomputable def dict.Table_bool.find.body0 (t_ : RP) (mem : Reg) (key : List UInt8) (s1051 : dict.Table_bool.find.S0) : Option (dict.Table_bool.find.S0 ⊕ (Unit ⊕ RP)) :=
 if s1051.t7 < 2 then
  (
   (
    if s1051.t7 = 1 then
     need (t_.isSome = true) <|
     (rLdB mem (rpAdd t_ 6)).bind fun r1110 =>
     some (!r1110)
    else
     some false).bind fun s1105 =>
   if s1105 = true then
    some (.inr (.inr (.inl ())))
   else
    (dict.Table_bool.slot t_ s1051.t7 key mem).bind fun r1111 =>
    dict.Table_bool.find.loop2 mem key ⟨r1111⟩).bind fun s1146 => onSum s1146 (fun s1099 =>
   some (.inl ⟨IntKind.wrap .i64 (s1051.t7 + 1)⟩)) fun s1146x => some s1146x
 else
  some (.inr (.inl ()))

noncomputable def dict.Table_bool.find.loop0 (t_ : RP) (mem : Reg) (key : List UInt8) (s1051 : dict.Table_bool.find.S0) : Option (Unit ⊕ RP) := whileO (dict.Table_bool.find.body0 t_ mem key) s1051

noncomputable def dict.Table_bool.find (t_ : RP) (key : List UInt8) (mem : Reg) : Option RP :=
 (dict.Table_bool.find.loop0 t_ mem key ⟨0⟩).bind fun s1148 => onSum s1148 (fun s860 =>
  some (none : RP)) fun s1148x => some s1148x

noncomputable def dict.Table_bool.part (t_ : RP) (size : Int) (mem : Reg) : Option Reg :=
 (dict.empty_bool size mem).bind fun r8 =>
 need (t_.isSome = true) <|
 need ((rpAdd t_ 1).isSome = true) <|
 need (InB 1 2) <|
 (rSto r8.2 (rpAdd (rpAdd t_ 1) 2) [.it .i64 r8.1.size, .sc r8.1.l]).bind fun r12 =>
 (rSto r12 (rpAdd t_ 6) [.bo true]).bind fun r13 =>
 (rSto r13 (rpAdd t_ 5) [.it .i64 0]).bind fun r14 =>
 some r14

noncomputable def dict.Table_bool.Put (t_ : RP) (key : List UInt8) (v_ : Bool) (mem : Reg) : Option (Bool × Reg) :=
 (dict.Table_bool.ready t_ mem).bind fun r63 =>
 if (!r63.1) = true then
  some (false, r63.2)
 else
  (dict.Table_bool.step t_ r63.2).bind fun r64 =>
  (dict.Table_bool.find t_ key r64.2).bind fun r65 =>
  if r65.isSome = true then
   need (r65.isSome = true) <|
   (rLdP r64.2 r65).bind fun r67 =>
   need (r67.isSome = true) <|
   (rSto r64.2 (rpAdd r67 1) [.bo v_]).bind fun r69 =>
   some (false, r69)
  else
   (
    need (t_.isSome = true) <|
    (rLdB r64.2 (rpAdd t_ 6)).bind fun r77 =>
    if r77 = true then
     some 1
    else
     some 0).bind fun s73 =>
   letO (r64.2 ++ [[.tx key, .bo v_, .pt (none : RP)]]) fun x79 =>
   (dict.Table_bool.front t_ s73 (some (r64.2.length, 0) : RP) x79).bind fun r80 =>
   need (t_.isSome = true) <|
   (rLdI .i64 r80 (rpAdd t_ 7)).bind fun r82 =>
   (rSto r80 (rpAdd t_ 7) [.it .i64 (IntKind.wrap .i64 (r82 + 1))]).bind fun r83 =>
   (
    need ((rpAdd t_ 1).isSome = true) <|
    need (InB 0 2) <|
    (rLdI .i64 r83 (rpAdd (rpAdd (rpAdd t_ 1) 0) 0)).bind fun r107 =>
    (rLdL r83 (rpAdd (rpAdd (rpAdd t_ 1) 0) 1)).bind fun r108 =>
    (
     (rLdB r83 (rpAdd t_ 6)).bind fun r117 =>
     if (!r117) = true then
      (rLdI .i64 r83 (rpAdd t_ 7)).bind fun r119 =>
      if (rsLen r108 : Int) < r119 then
       some (decide (r107 < 16))
      else
       some false
     else
      some false).bind fun s114 =>
    if s114 = true then
     (dict.Table_bool.part t_ (IntKind.wrap .i64 (r107 + 1)) r83).bind fun r121 =>
     some r121
    else
     some r83).bind fun s102 =>
   some (true, s102)

structure member.Put.S0 where
 n : Int
 t10 : Int
 mem : Reg

noncomputable def member.Put.body0 (members : List (List UInt8)) (t_ : RP) (s137 : member.Put.S0) : Option (member.Put.S0 ⊕ (Int × Reg)) :=
 if s137.t10 < (members.length : Int) then
  (
   need (InB s137.t10 members.length) <|
   (dict.Table_bool.Put t_ (ix members s137.t10) true s137.mem).bind fun r148 =>
   if r148.1 = true then
    some (IntKind.wrap .i64 (s137.n + 1), r148.2)
   else
    some (s137.n, r148.2)).bind fun s144 =>
  some (.inl ⟨s144.1, IntKind.wrap .i64 (s137.t10 + 1), s144.2⟩)
 else
  some (.inr (s137.n, s137.mem))

noncomputable def member.Put.loop0 (members : List (List UInt8)) (t_ : RP) (s137 : member.Put.S0) : Option (Int × Reg) := whileO (member.Put.body0 members t_) s137

noncomputable def member.Put (t_ : RP) (members : List (List UInt8)) (mem : Reg) : Option (Int × Reg) :=
 (member.Put.loop0 members t_ ⟨0, 0, mem⟩).bind fun s112 =>
 some (s112.1, s112.2)

noncomputable def dict.Table_bool.Drop (t_ : RP) (key : List UInt8) (mem : Reg) : Option (Bool × Reg) :=
 (dict.Table_bool.ready t_ mem).bind fun r53 =>
 if (!r53.1) = true then
  some (false, r53.2)
 else
  (dict.Table_bool.step t_ r53.2).bind fun r54 =>
  (dict.Table_bool.find t_ key r54.2).bind fun r55 =>
  if r55.isNone = true then
   some (false, r54.2)
  else
   need (r55.isSome = true) <|
   (rLdP r54.2 r55).bind fun r57 =>
   need (r57.isSome = true) <|
   (rLdP r54.2 (rpAdd r57 2)).bind fun r59 =>
   (rSto r54.2 r55 [.pt r59]).bind fun r60 =>
   need (t_.isSome = true) <|
   (rLdI .i64 r60 (rpAdd t_ 7)).bind fun r62 =>
   (rSto r60 (rpAdd t_ 7) [.it .i64 (IntKind.wrap .i64 (r62 - 1))]).bind fun r63 =>
   (
    need ((rpAdd t_ 1).isSome = true) <|
    need (InB 0 2) <|
    (rLdI .i64 r63 (rpAdd (rpAdd (rpAdd t_ 1) 0) 0)).bind fun r87 =>
    (rLdL r63 (rpAdd (rpAdd (rpAdd t_ 1) 0) 1)).bind fun r88 =>
    (
     (rLdB r63 (rpAdd t_ 6)).bind fun r97 =>
     if (!r97) = true then
      if 2 < r87 then
       (rLdI .i64 r63 (rpAdd t_ 7)).bind fun r100 =>
       some (decide ((IntKind.wrap .i64 (8 * r100)) < (rsLen r88 : Int)))
      else
       some false
     else
      some false).bind fun s94 =>
    if s94 = true then
     (dict.Table_bool.part t_ (IntKind.wrap .i64 (r87 - 1)) r63).bind fun r101 =>
     some r101
    else
     some r63).bind fun s82 =>
   some (true, s82)

structure member.Drop.S0 where
 n : Int
 t10 : Int
 mem : Reg

noncomputable def member.Drop.body0 (members : List (List UInt8)) (t_ : RP) (s137 : member.Drop.S0) : Option (member.Drop.S0 ⊕ (Int × Reg)) :=
 if s137.t10 < (members.length : Int) then
  (
   need (InB s137.t10 members.length) <|
   (dict.Table_bool.Drop t_ (ix members s137.t10) s137.mem).bind fun r148 =>
   if r148.1 = true then
    some (IntKind.wrap .i64 (s137.n + 1), r148.2)
   else
    some (s137.n, r148.2)).bind fun s144 =>
  some (.inl ⟨s144.1, IntKind.wrap .i64 (s137.t10 + 1), s144.2⟩)
 else
  some (.inr (s137.n, s137.mem))

noncomputable def member.Drop.loop0 (members : List (List UInt8)) (t_ : RP) (s137 : member.Drop.S0) : Option (Int × Reg) := whileO (member.Drop.body0 members t_) s137

noncomputable def member.Drop (t_ : RP) (members : List (List UInt8)) (mem : Reg) : Option (Int × Reg) :=
 (member.Drop.loop0 members t_ ⟨0, 0, mem⟩).bind fun s112 =>
 some (s112.1, s112.2)

noncomputable def dict.Table_bool.Get (t_ : RP) (key : List UInt8) (mem : Reg) : Option (Bool × Bool) :=
 (
  (
   if t_.isSome = true then
    need (t_.isSome = true) <|
    (rLdI .i64 mem (rpAdd t_ 7)).bind fun r65 =>
    some (decide (0 < r65))
   else
    some false).bind fun s60 =>
  if s60 = true then
   (dict.Table_bool.find t_ key mem).bind fun r66 =>
   if r66.isSome = true then
    need (r66.isSome = true) <|
    (rLdP mem r66).bind fun r68 =>
    need (r68.isSome = true) <|
    (rLdB mem (rpAdd r68 1)).bind fun r70 =>
    some (.inr (r70, true))
   else
    some (.inl ())
  else
   some (.inl ())).bind fun s74 => onSum s74 (fun s54 =>
  some (false, false)) fun s74x => some s74x

noncomputable def member.Has (t_ : RP) (member_ : List UInt8) (mem : Reg) : Option Bool :=
 (dict.Table_bool.Get t_ member_ mem).bind fun r2 =>
 some r2.2

structure dict.Table_bool.Chain.S0 where
 out : List (List UInt8)
 x : RP

noncomputable def dict.Table_bool.Chain.body0 (s105 : Bool × Reg) (s187 : dict.Table_bool.Chain.S0) : Option (dict.Table_bool.Chain.S0 ⊕ (List (List UInt8))) :=
 if s187.x.isSome = true then
  need (s187.x.isSome = true) <|
  (rLdS s105.2 (rpAdd s187.x 0)).bind fun r193 =>
  need ((s187.out.length + [r193].length) * 16 ≤ 140737488355328) <|
  (rLdP s105.2 (rpAdd s187.x 2)).bind fun r196 =>
  some (.inl ⟨s187.out ++ [r193], r196⟩)
 else
  some (.inr s187.out)

noncomputable def dict.Table_bool.Chain.loop0 (s105 : Bool × Reg) (s187 : dict.Table_bool.Chain.S0) : Option (List (List UInt8)) := whileO (dict.Table_bool.Chain.body0 s105) s187

noncomputable def dict.Table_bool.Chain (t_ : RP) (old : Bool) (place : Int) (mem : Reg) : Option ((List (List UInt8)) × Reg) :=
 (
  (dict.Table_bool.ready t_ mem).bind fun r108 =>
  if (!r108.1) = true then
   some (true, r108.2)
  else
   if (!old) = true then
    need (t_.isSome = true) <|
    (rLdB r108.2 (rpAdd t_ 6)).bind fun r112 =>
    some ((!r112), r108.2)
   else
    some (false, r108.2)).bind fun s105 =>
 if s105.1 = true then
  some (([] : List (List UInt8)), s105.2)
 else
  need (t_.isSome = true) <|
  need ((rpAdd t_ 1).isSome = true) <|
  need (InB 0 2) <|
  (rLdI .i64 s105.2 (rpAdd (rpAdd (rpAdd t_ 1) 0) 0)).bind fun r117 =>
  (rLdL s105.2 (rpAdd (rpAdd (rpAdd t_ 1) 0) 1)).bind fun r118 =>
  (
   if (!old) = true then
    need (InB 1 2) <|
    (rLdI .i64 s105.2 (rpAdd (rpAdd (rpAdd t_ 1) 2) 0)).bind fun r128 =>
    (rLdL s105.2 (rpAdd (rpAdd (rpAdd t_ 1) 2) 1)).bind fun r129 =>
    some (r128, r129)
   else
    some (r117, r118)).bind fun s124 =>
  letO (
   if place < 0 then
    true
   else
    decide ((rsLen s124.2 : Int) ≤ place)) fun s132 =>
  if s132 = true then
   some (([] : List (List UInt8)), s105.2)
  else
   (
    need (InB place (rsLen s124.2)) <|
    (rLdP s105.2 (rsPtr s124.2 place 1)).bind fun r171 =>
    dict.Table_bool.Chain.loop0 s105 ⟨([] : List (List UInt8)), r171⟩).bind fun s166 =>
   some (s166, s105.2)

structure dict.Table_bool.Keys.S0 where
 t9 : Int
 mem : Reg
 v : List (List UInt8)

structure dict.Table_bool.Keys.S2 where
 t20 : Int
 mem : Reg
 v : List (List UInt8)

noncomputable def dict.Table_bool.Keys.body2 (r761 : RS) (t_ : RP) (s720 : dict.Table_bool.Keys.S0) (s775 : dict.Table_bool.Keys.S2) : Option (dict.Table_bool.Keys.S2 ⊕ (Reg × (List (List UInt8)))) :=
 if s775.t20 < (rsLen r761 : Int) then
  (dict.Table_bool.Chain t_ (decide (s720.t9 = 0)) s775.t20 s775.mem).bind fun r780 =>
  need ((s775.v.length + r780.1.length) * 16 ≤ 140737488355328) <|
  some (.inl ⟨IntKind.wrap .i64 (s775.t20 + 1), r780.2, s775.v ++ r780.1⟩)
 else
  some (.inr (s775.mem, s775.v))

noncomputable def dict.Table_bool.Keys.loop2 (r761 : RS) (t_ : RP) (s720 : dict.Table_bool.Keys.S0) (s775 : dict.Table_bool.Keys.S2) : Option (Reg × (List (List UInt8))) := whileO (dict.Table_bool.Keys.body2 r761 t_ s720) s775

noncomputable def dict.Table_bool.Keys.body0 (t_ : RP) (s720 : dict.Table_bool.Keys.S0) : Option (dict.Table_bool.Keys.S0 ⊕ ((List (List UInt8)) × Reg)) :=
 if s720.t9 < 2 then
  (
   need (t_.isSome = true) <|
   need ((rpAdd t_ 1).isSome = true) <|
   need (InB s720.t9 2) <|
   need ((rpAdd (rpAdd t_ 1) (Int.toNat s720.t9 * 2)).isSome = true) <|
   (rLdL s720.mem (rpAdd (rpAdd (rpAdd t_ 1) (Int.toNat s720.t9 * 2)) 1)).bind fun r761 =>
   dict.Table_bool.Keys.loop2 r761 t_ s720 ⟨0, s720.mem, s720.v⟩).bind fun s753 =>
  some (.inl ⟨IntKind.wrap .i64 (s720.t9 + 1), s753.1, s753.2⟩)
 else
  some (.inr (s720.v, s720.mem))

noncomputable def dict.Table_bool.Keys.loop0 (t_ : RP) (s720 : dict.Table_bool.Keys.S0) : Option ((List (List UInt8)) × Reg) := whileO (dict.Table_bool.Keys.body0 t_) s720

noncomputable def dict.Table_bool.Keys (t_ : RP) (mem : Reg) : Option ((List (List UInt8)) × Reg) :=
 if t_.isNone = true then
  some (([] : List (List UInt8)), mem)
 else
  (dict.Table_bool.Keys.loop0 t_ ⟨0, mem, ([] : List (List UInt8))⟩).bind fun s589 =>
  some (s589.1, s589.2)

noncomputable def slices.Sort_string (x : List (List UInt8)) : Option (List (List UInt8)) :=
 need (x.length < 4611686018427387904) <|
 some (x.mergeSort fun a b => decide (a ≤ b))

noncomputable def member.All (t_ : RP) (mem : Reg) : Option ((List (List UInt8)) × Reg) :=
 (dict.Table_bool.Keys t_ mem).bind fun r4 =>
 (slices.Sort_string r4.1).bind fun r6 =>
 some (r6, r4.2)

noncomputable def mewslaw23.MemberNobody (l : List (List UInt8)) (s_ : List UInt8) : Option Bool :=
 (
  (mewslaw23.far [l]).bind fun r54 =>
  if r54 = true then
   some true
  else
   some (decide (200 < (s_.length : Int)))).bind fun s51 =>
 if s51 = true then
  (mewslaw23.alive).bind fun r56 =>
  some r56
 else
  (
   (member.Put (none : RP) l ([] : Reg)).bind fun r78 =>
   if r78.1 = 0 then
    (member.Drop (none : RP) l r78.2).bind fun r80 =>
    if r80.1 = 0 then
     (member.Has (none : RP) s_ r80.2).bind fun r82 =>
     if (!r82) = true then
      (member.All (none : RP) r80.2).bind fun r84 =>
      if (r84.1.length : Int) = 0 then
       (member.Union ([] : List (List (List UInt8)))).bind fun r86 =>
       if (r86.length : Int) = 0 then
        (member.Inter ([] : List (List (List UInt8)))).bind fun r89 =>
        if (r89.length : Int) = 0 then
         (member.Diff ([] : List (List (List UInt8)))).bind fun r92 =>
         if (r92.length : Int) = 0 then
          (mewslaw23.alive).bind fun r95 =>
          some (r95, r84.2)
         else
          some (false, r84.2)
        else
         some (false, r84.2)
       else
        some (false, r84.2)
      else
       some (false, r84.2)
     else
      some (false, r80.2)
    else
     some (false, r80.2)
   else
    some (false, r78.2)).bind fun s75 =>
  some s75.1

structure mewsref23.Drop.S0 where
 l : List (List UInt8)
 n : Int
 i : Int

structure mewsref23.Drop.S2 where
 n : Int
 out : List (List UInt8)
 k : Int

noncomputable def mewsref23.Drop.body2 (s1424 : mewsref23.Drop.S0) (members : List (List UInt8)) (s1531 : mewsref23.Drop.S2) : Option (mewsref23.Drop.S2 ⊕ (Int × (List (List UInt8)))) :=
 if s1531.k < (s1424.l.length : Int) then
  (
   need (InB s1531.k s1424.l.length) <|
   need (InB s1424.i members.length) <|
   if (ix s1424.l s1531.k) = (ix members s1424.i) then
    some (IntKind.wrap .i64 (s1531.n + 1), s1531.out)
   else
    need (InB s1531.k s1424.l.length) <|
    need ((s1531.out.length + [ix s1424.l s1531.k].length) * 16 ≤ 140737488355328) <|
    some (s1531.n, s1531.out ++ [ix s1424.l s1531.k])).bind fun s1542 =>
  some (.inl ⟨s1542.1, s1542.2, IntKind.wrap .i64 (s1531.k + 1)⟩)
 else
  some (.inr (s1531.n, s1531.out))

noncomputable def mewsref23.Drop.loop2 (s1424 : mewsref23.Drop.S0) (members : List (List UInt8)) (s1531 : mewsref23.Drop.S2) : Option (Int × (List (List UInt8))) := whileO (mewsref23.Drop.body2 s1424 members) s1531

noncomputable def mewsref23.Drop.body0 (members : List (List UInt8)) (s1424 : mewsref23.Drop.S0) : Option (mewsref23.Drop.S0 ⊕ ((List (List UInt8)) × Int)) :=
 if s1424.i < (members.length : Int) then
  (mewsref23.Drop.loop2 s1424 members ⟨s1424.n, ([] : List (List UInt8)), 0⟩).bind fun s1489 =>
  some (.inl ⟨s1489.2, s1489.1, IntKind.wrap .i64 (s1424.i + 1)⟩)
 else
  some (.inr (s1424.l, s1424.n))

noncomputable def mewsref23.Drop.loop0 (members : List (List UInt8)) (s1424 : mewsref23.Drop.S0) : Option ((List (List UInt8)) × Int) := whileO (mewsref23.Drop.body0 members) s1424

noncomputable def mewsref23.Drop (l : List (List UInt8)) (members : List (List UInt8)) : Option ((List (List UInt8)) × Int) :=
 (mewsref23.Drop.loop0 members ⟨l, 0, 0⟩).bind fun s1165 =>
 some (s1165.1, s1165.2)

structure mewsref23.Has.S0 where
 i : Int

noncomputable def mewsref23.Has.body0 (l : List (List UInt8)) (s_ : List UInt8) (s61 : mewsref23.Has.S0) : Option (mewsref23.Has.S0 ⊕ (Unit ⊕ Bool)) :=
 if s61.i < (l.length : Int) then
  need (InB s61.i l.length) <|
  if (ix l s61.i) = s_ then
   some (.inr (.inr true))
  else
   some (.inl ⟨IntKind.wrap .i64 (s61.i + 1)⟩)
 else
  some (.inr (.inl ()))

noncomputable def mewsref23.Has.loop0 (l : List (List UInt8)) (s_ : List UInt8) (s61 : mewsref23.Has.S0) : Option (Unit ⊕ Bool) := whileO (mewsref23.Has.body0 l s_) s61

noncomputable def mewsref23.Has (l : List (List UInt8)) (s_ : List UInt8) : Option Bool :=
 (mewsref23.Has.loop0 l s_ ⟨0⟩).bind fun s68 => onSum s68 (fun s50 =>
  some false) fun s68x => some s68x

structure mewsref19.With.S0 where
 i : Int

noncomputable def mewsref19.With.body0 (l : List (List UInt8)) (s_ : List UInt8) (s131 : mewsref19.With.S0) : Option (mewsref19.With.S0 ⊕ Int) :=
 (
  if s131.i < (l.length : Int) then
   need (InB s131.i l.length) <|
   some (strLt (ix l s131.i) s_)
  else
   some false).bind fun s137 =>
 if s137 = true then
  some (.inl ⟨IntKind.wrap .i64 (s131.i + 1)⟩)
 else
  some (.inr s131.i)

noncomputable def mewsref19.With.loop0 (l : List (List UInt8)) (s_ : List UInt8) (s131 : mewsref19.With.S0) : Option Int := whileO (mewsref19.With.body0 l s_) s131

noncomputable def mewsref19.With (l : List (List UInt8)) (s_ : List UInt8) : Option (List (List UInt8)) :=
 (mewsref19.With.loop0 l s_ ⟨0⟩).bind fun s110 =>
 (
  if s110 < (l.length : Int) then
   need (InB s110 l.length) <|
   some (decide ((ix l s110) = s_))
  else
   some false).bind fun s145 =>
 if s145 = true then
  some l
 else
  need (InR 0 s110 l.length) <|
  need ((([] : List (List UInt8)).length + (sub l 0 s110).length) * 16 ≤ 140737488355328) <|
  need (((([] : List (List UInt8)) ++ (sub l 0 s110)).length + [s_].length) * 16 ≤ 140737488355328) <|
  need (InR s110 (l.length : Int) l.length) <|
  need ((((([] : List (List UInt8)) ++ (sub l 0 s110)) ++ [s_]).length + (sub l s110 (l.length : Int)).length) * 16 ≤ 140737488355328) <|
  some (((([] : List (List UInt8)) ++ (sub l 0 s110)) ++ [s_]) ++ (sub l s110 (l.length : Int)))

structure mewsref23.Put.S0 where
 l : List (List UInt8)
 n : Int
 i : Int

noncomputable def mewsref23.Put.body0 (members : List (List UInt8)) (s181 : mewsref23.Put.S0) : Option (mewsref23.Put.S0 ⊕ ((List (List UInt8)) × Int)) :=
 if s181.i < (members.length : Int) then
  (
   need (InB s181.i members.length) <|
   (mewsref23.Has s181.l (ix members s181.i)).bind fun r194 =>
   if (!r194) = true then
    need (InB s181.i members.length) <|
    (mewsref19.With s181.l (ix members s181.i)).bind fun r196 =>
    some (r196, IntKind.wrap .i64 (s181.n + 1))
   else
    some (s181.l, s181.n)).bind fun s190 =>
  some (.inl ⟨s190.1, s190.2, IntKind.wrap .i64 (s181.i + 1)⟩)
 else
  some (.inr (s181.l, s181.n))

noncomputable def mewsref23.Put.loop0 (members : List (List UInt8)) (s181 : mewsref23.Put.S0) : Option ((List (List UInt8)) × Int) := whileO (mewsref23.Put.body0 members) s181

noncomputable def mewsref23.Put (l : List (List UInt8)) (members : List (List UInt8)) : Option ((List (List UInt8)) × Int) :=
 (mewsref23.Put.loop0 members ⟨l, 0, 0⟩).bind fun s148 =>
 some (s148.1, s148.2)

noncomputable def dict.Table_bool.Len (t_ : RP) (mem : Reg) : Option Int :=
 if t_.isNone = true then
  some 0
 else
  need (t_.isSome = true) <|
  (rLdI .i64 mem (rpAdd t_ 7)).bind fun r5 =>
  some r5

noncomputable def member.Make (seed : Int) (members : List (List UInt8)) (mem : Reg) : Option (RP × Reg) :=
 (dict.New_bool seed mem).bind fun r3 =>
 (member.Put r3.1 members r3.2).bind fun r4 =>
 some (r3.1, r4.2)

structure mewslaw23.MemberPlays.S0 where
 r : List (List UInt8)
 t26 : Int
 mem : Reg

noncomputable def mewslaw23.MemberPlays.body0 (l : List mewslaw23.Op) (r272 : RP × Reg) (s_ : List UInt8) (s485 : mewslaw23.MemberPlays.S0) : Option (mewslaw23.MemberPlays.S0 ⊕ (((List (List UInt8)) × Reg) ⊕ Bool)) :=
 if s485.t26 < (l.length : Int) then
  need (InB s485.t26 l.length) <|
  (mewslaw23.far [(ix l s485.t26).Members]).bind fun r491 =>
  if r491 = true then
   (mewslaw23.alive).bind fun r492 =>
   some (.inr (.inr r492))
  else
   (
    if (ix l s485.t26).Drop = true then
     (member.Drop r272.1 (ix l s485.t26).Members s485.mem).bind fun r501 =>
     (mewsref23.Drop s485.r (ix l s485.t26).Members).bind fun r502 =>
     some (r502.1, r501.1, r502.2, r501.2)
    else
     (member.Put r272.1 (ix l s485.t26).Members s485.mem).bind fun r503 =>
     (mewsref23.Put s485.r (ix l s485.t26).Members).bind fun r504 =>
     some (r504.1, r503.1, r504.2, r503.2)).bind fun s498 =>
   (
    if s498.2.1 = s498.2.2.1 then
     (member.All r272.1 s498.2.2.2).bind fun r518 =>
     (mewsref02.Same r518.1 s498.1).bind fun r519 =>
     if (!r519) = true then
      some (true, r518.2)
     else
      (member.Has r272.1 s_ r518.2).bind fun r521 =>
      (mewsref23.Has s498.1 s_).bind fun r522 =>
      if (!(r521 == r522)) = true then
       some (true, r518.2)
      else
       (dict.Table_bool.Len r272.1 r518.2).bind fun r524 =>
       some ((!decide (r524 = (s498.1.length : Int))), r518.2)
    else
     some (true, s498.2.2.2)).bind fun s514 =>
   if s514.1 = true then
    some (.inr (.inr false))
   else
    some (.inl ⟨s498.1, IntKind.wrap .i64 (s485.t26 + 1), s514.2⟩)
 else
  some (.inr (.inl (s485.r, s485.mem)))

noncomputable def mewslaw23.MemberPlays.loop0 (l : List mewslaw23.Op) (r272 : RP × Reg) (s_ : List UInt8) (s485 : mewslaw23.MemberPlays.S0) : Option (((List (List UInt8)) × Reg) ⊕ Bool) := whileO (mewslaw23.MemberPlays.body0 l r272 s_) s485

noncomputable def mewslaw23.MemberPlays (seed : Int) (l : List mewslaw23.Op) (s_ : List UInt8) : Option Bool :=
 (dict.New_bool seed ([] : Reg)).bind fun r272 =>
 letO (
  if 50 < (l.length : Int) then
   true
  else
   decide (200 < (s_.length : Int))) fun s274 =>
 if s274 = true then
  (mewslaw23.alive).bind fun r278 =>
  some r278
 else
  (mewslaw23.MemberPlays.loop0 l r272 s_ ⟨([] : List (List UInt8)), 0, r272.2⟩).bind fun s541 => onSum s541 (fun s402 =>
   (
    (member.Make (IntKind.wrap .u64 (seed + 1)) s402.1 s402.2).bind fun r536 =>
    (member.All r536.1 r536.2).bind fun r537 =>
    (mewsref02.Same r537.1 s402.1).bind fun r538 =>
    if r538 = true then
     (mewslaw23.alive).bind fun r540 =>
     some (r540, r537.2)
    else
     some (false, r537.2)).bind fun s533 =>
   some s533.1) fun s541x => some s541x

end Go.Pu
