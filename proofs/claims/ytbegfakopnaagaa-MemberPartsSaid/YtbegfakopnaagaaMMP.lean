/- Printed by lift.py: the functions over data. -/
import Derived.Test.YtbegfakopnaagaaMMT
set_option maxRecDepth 100000
set_option maxHeartbeats 0
namespace Go.Pu
open Go.Lift

structure mewslaw23.far.S0 where
  n : Int
  t10 : Int

structure mewslaw23.far.S2 where
  t22 : Int

noncomputable def mewslaw23.far.body2 (l : List (List (List UInt8))) (s457 : mewslaw23.far.S0) (s490 : mewslaw23.far.S2) : Option (mewslaw23.far.S2 ⊕ (Unit ⊕ (mewslaw23.far.S0 ⊕ (Unit ⊕ Bool)))) :=
  if s490.t22 < ((ix l s457.t10).length : Int) then
    need (InB s490.t22 (ix l s457.t10).length) <|
    if 200 < ((ix (ix l s457.t10) s490.t22).length : Int) then
      some (.inr (.inr (.inr (.inr true))))
    else
      some (.inl ⟨IntKind.wrap .i64 (s490.t22 + 1)⟩)
  else
    some (.inr (.inl ()))

noncomputable def mewslaw23.far.loop2 (l : List (List (List UInt8))) (s457 : mewslaw23.far.S0) (s490 : mewslaw23.far.S2) : Option (Unit ⊕ (mewslaw23.far.S0 ⊕ (Unit ⊕ Bool))) := whileO (mewslaw23.far.body2 l s457) s490

noncomputable def mewslaw23.far.body0 (l : List (List (List UInt8))) (s457 : mewslaw23.far.S0) : Option (mewslaw23.far.S0 ⊕ (Unit ⊕ Bool)) :=
  if s457.t10 < (l.length : Int) then
    (
      need (InB s457.t10 l.length) <|
      if 300 < (IntKind.wrap .i64 (s457.n + ((ix l s457.t10).length : Int))) then
        some (.inr (.inr (.inr true)))
      else
        mewslaw23.far.loop2 l s457 ⟨0⟩).bind fun s498 => onSum s498 (fun s478 =>
      some (.inl ⟨IntKind.wrap .i64 (s457.n + ((ix l s457.t10).length : Int)), IntKind.wrap .i64 (s457.t10 + 1)⟩)) fun s498x => some s498x
  else
    some (.inr (.inl ()))

noncomputable def mewslaw23.far.loop0 (l : List (List (List UInt8))) (s457 : mewslaw23.far.S0) : Option (Unit ⊕ Bool) := whileO (mewslaw23.far.body0 l) s457

noncomputable def mewslaw23.far (l : List (List (List UInt8))) : Option Bool :=
  (mewslaw23.far.loop0 l ⟨0, 0⟩).bind fun s500 => onSum s500 (fun s374 =>
    some (decide (20 < (l.length : Int)))) fun s500x => some s500x

noncomputable def member.Union_1 (a0_ : Int) (a1_ : Bool) : Option Bool :=
  some true

structure member.merge_member_Union_1.S0 where
  out : List (List UInt8)
  v : List Int

structure member.merge_member_Union_1.S2 where
  least : List UInt8
  some_ : Bool
  t18 : Int

noncomputable def member.merge_member_Union_1.body2 (l : List (List (List UInt8))) (s3272 : member.merge_member_Union_1.S0) (s3528 : member.merge_member_Union_1.S2) : Option (member.merge_member_Union_1.S2 ⊕ ((List UInt8) × Bool)) :=
  if s3528.t18 < (l.length : Int) then
    (
      (
        need (InB s3528.t18 s3272.v.length) <|
        need (InB s3528.t18 s3272.v.length) <|
        need (InB s3528.t18 l.length) <|
        if (ix s3272.v s3528.t18) < ((ix l s3528.t18).length : Int) then
          if (!s3528.some_) = true then
            some true
          else
            need (InB s3528.t18 l.length) <|
            need (InB s3528.t18 s3272.v.length) <|
            need (InB s3528.t18 s3272.v.length) <|
            need (InB (ix s3272.v s3528.t18) (ix l s3528.t18).length) <|
            some (strLt (ix (ix l s3528.t18) (ix s3272.v s3528.t18)) s3528.least)
        else
          some false).bind fun s3570 =>
      if s3570 = true then
        need (InB s3528.t18 l.length) <|
        need (InB s3528.t18 s3272.v.length) <|
        need (InB s3528.t18 s3272.v.length) <|
        need (InB (ix s3272.v s3528.t18) (ix l s3528.t18).length) <|
        some (ix (ix l s3528.t18) (ix s3272.v s3528.t18), true)
      else
        some (s3528.least, s3528.some_)).bind fun s3558 =>
    some (.inl ⟨s3558.1, s3558.2, IntKind.wrap .i64 (s3528.t18 + 1)⟩)
  else
    some (.inr (s3528.least, s3528.some_))

noncomputable def member.merge_member_Union_1.loop2 (l : List (List (List UInt8))) (s3272 : member.merge_member_Union_1.S0) (s3528 : member.merge_member_Union_1.S2) : Option ((List UInt8) × Bool) := whileO (member.merge_member_Union_1.body2 l s3272) s3528

structure member.merge_member_Union_1.S4 where
  n : Int
  first : Bool
  t65 : Int
  v : List Int

noncomputable def member.merge_member_Union_1.body4 (l : List (List (List UInt8))) (s3431 : (List UInt8) × Bool) (s3865 : member.merge_member_Union_1.S4) : Option (member.merge_member_Union_1.S4 ⊕ (Int × Bool × (List Int))) :=
  if s3865.t65 < (l.length : Int) then
    (
      (
        need (InB s3865.t65 s3865.v.length) <|
        need (InB s3865.t65 s3865.v.length) <|
        need (InB s3865.t65 l.length) <|
        if (ix s3865.v s3865.t65) < ((ix l s3865.t65).length : Int) then
          need (InB s3865.t65 l.length) <|
          need (InB s3865.t65 s3865.v.length) <|
          need (InB s3865.t65 s3865.v.length) <|
          need (InB (ix s3865.v s3865.t65) (ix l s3865.t65).length) <|
          some (decide ((ix (ix l s3865.t65) (ix s3865.v s3865.t65)) = s3431.1))
        else
          some false).bind fun s3905 =>
      if s3905 = true then
        need (InB s3865.t65 s3865.v.length) <|
        need (InB s3865.t65 s3865.v.length) <|
        need (InB s3865.t65 s3865.v.length) <|
        need (InB s3865.t65 s3865.v.length) <|
        if s3865.first = true then
          some (IntKind.wrap .i64 (s3865.n + 1), true, upd s3865.v s3865.t65 (IntKind.wrap .i64 ((ix s3865.v s3865.t65) + 1)))
        else
          some (IntKind.wrap .i64 (s3865.n + 1), decide (s3865.t65 = 0), upd s3865.v s3865.t65 (IntKind.wrap .i64 ((ix s3865.v s3865.t65) + 1)))
      else
        some (s3865.n, s3865.first, s3865.v)).bind fun s3894 =>
    some (.inl ⟨s3894.1, s3894.2.1, IntKind.wrap .i64 (s3865.t65 + 1), s3894.2.2⟩)
  else
    some (.inr (s3865.n, s3865.first, s3865.v))

noncomputable def member.merge_member_Union_1.loop4 (l : List (List (List UInt8))) (s3431 : (List UInt8) × Bool) (s3865 : member.merge_member_Union_1.S4) : Option (Int × Bool × (List Int)) := whileO (member.merge_member_Union_1.body4 l s3431) s3865

noncomputable def member.merge_member_Union_1.body0 (l : List (List (List UInt8))) (s3272 : member.merge_member_Union_1.S0) : Option (member.merge_member_Union_1.S0 ⊕ (List (List UInt8))) :=
  (member.merge_member_Union_1.loop2 l s3272 ⟨([] : List UInt8), false, 0⟩).bind fun s3431 =>
  if (!s3431.2) = true then
    some (.inr s3272.out)
  else
    (member.merge_member_Union_1.loop4 l s3431 ⟨0, false, 0, s3272.v⟩).bind fun s3754 =>
    (member.Union_1 s3754.1 s3754.2.1).bind fun r3923 =>
    if r3923 = true then
      need ((s3272.out.length + [s3431.1].length) * 16 ≤ 140737488355328) <|
      some (.inl ⟨s3272.out ++ [s3431.1], s3754.2.2⟩)
    else
      some (.inl ⟨s3272.out, s3754.2.2⟩)

noncomputable def member.merge_member_Union_1.loop0 (l : List (List (List UInt8))) (s3272 : member.merge_member_Union_1.S0) : Option (List (List UInt8)) := whileO (member.merge_member_Union_1.body0 l) s3272

noncomputable def member.merge_member_Union_1 (l : List (List (List UInt8))) : Option (List (List UInt8)) :=
  need (Room (l.length : Int) 8) <|
  member.merge_member_Union_1.loop0 l ⟨([] : List (List UInt8)), List.replicate (Int.toNat (l.length : Int)) (0 : Int)⟩

noncomputable def member.Union (l : List (List (List UInt8))) : Option (List (List UInt8)) :=
  (member.merge_member_Union_1 l).bind fun r3 =>
  some r3

structure mewsref02.Same.S0 where
  i : Int

noncomputable def mewsref02.Same.body0 (a : List (List UInt8)) (b : List (List UInt8)) (s73 : mewsref02.Same.S0) : Option (mewsref02.Same.S0 ⊕ (Unit ⊕ Bool)) :=
  if s73.i < (a.length : Int) then
    need (InB s73.i a.length) <|
    need (InB s73.i b.length) <|
    if (ix a s73.i) = (ix b s73.i) then
      some (.inl ⟨IntKind.wrap .i64 (s73.i + 1)⟩)
    else
      some (.inr (.inr false))
  else
    some (.inr (.inl ()))

noncomputable def mewsref02.Same.loop0 (a : List (List UInt8)) (b : List (List UInt8)) (s73 : mewsref02.Same.S0) : Option (Unit ⊕ Bool) := whileO (mewsref02.Same.body0 a b) s73

noncomputable def mewsref02.Same (a : List (List UInt8)) (b : List (List UInt8)) : Option Bool :=
  if (a.length : Int) = (b.length : Int) then
    (mewsref02.Same.loop0 a b ⟨0⟩).bind fun s81 => onSum s81 (fun s60 =>
      some true) fun s81x => some s81x
  else
    some false

noncomputable def member.Inter_1 (n_ : Int) (a1_ : Bool) (a2_ : List (List (List UInt8))) : Option Bool :=
  some (decide (n_ = (a2_.length : Int)))

structure member.merge_member_Inter_1.S0 where
  out : List (List UInt8)
  v : List Int

structure member.merge_member_Inter_1.S2 where
  least : List UInt8
  some_ : Bool
  t18 : Int

noncomputable def member.merge_member_Inter_1.body2 (l : List (List (List UInt8))) (s3272 : member.merge_member_Inter_1.S0) (s3528 : member.merge_member_Inter_1.S2) : Option (member.merge_member_Inter_1.S2 ⊕ ((List UInt8) × Bool)) :=
  if s3528.t18 < (l.length : Int) then
    (
      (
        need (InB s3528.t18 s3272.v.length) <|
        need (InB s3528.t18 s3272.v.length) <|
        need (InB s3528.t18 l.length) <|
        if (ix s3272.v s3528.t18) < ((ix l s3528.t18).length : Int) then
          if (!s3528.some_) = true then
            some true
          else
            need (InB s3528.t18 l.length) <|
            need (InB s3528.t18 s3272.v.length) <|
            need (InB s3528.t18 s3272.v.length) <|
            need (InB (ix s3272.v s3528.t18) (ix l s3528.t18).length) <|
            some (strLt (ix (ix l s3528.t18) (ix s3272.v s3528.t18)) s3528.least)
        else
          some false).bind fun s3570 =>
      if s3570 = true then
        need (InB s3528.t18 l.length) <|
        need (InB s3528.t18 s3272.v.length) <|
        need (InB s3528.t18 s3272.v.length) <|
        need (InB (ix s3272.v s3528.t18) (ix l s3528.t18).length) <|
        some (ix (ix l s3528.t18) (ix s3272.v s3528.t18), true)
      else
        some (s3528.least, s3528.some_)).bind fun s3558 =>
    some (.inl ⟨s3558.1, s3558.2, IntKind.wrap .i64 (s3528.t18 + 1)⟩)
  else
    some (.inr (s3528.least, s3528.some_))

noncomputable def member.merge_member_Inter_1.loop2 (l : List (List (List UInt8))) (s3272 : member.merge_member_Inter_1.S0) (s3528 : member.merge_member_Inter_1.S2) : Option ((List UInt8) × Bool) := whileO (member.merge_member_Inter_1.body2 l s3272) s3528

structure member.merge_member_Inter_1.S4 where
  n : Int
  first : Bool
  t65 : Int
  v : List Int

noncomputable def member.merge_member_Inter_1.body4 (l : List (List (List UInt8))) (s3431 : (List UInt8) × Bool) (s3865 : member.merge_member_Inter_1.S4) : Option (member.merge_member_Inter_1.S4 ⊕ (Int × Bool × (List Int))) :=
  if s3865.t65 < (l.length : Int) then
    (
      (
        need (InB s3865.t65 s3865.v.length) <|
        need (InB s3865.t65 s3865.v.length) <|
        need (InB s3865.t65 l.length) <|
        if (ix s3865.v s3865.t65) < ((ix l s3865.t65).length : Int) then
          need (InB s3865.t65 l.length) <|
          need (InB s3865.t65 s3865.v.length) <|
          need (InB s3865.t65 s3865.v.length) <|
          need (InB (ix s3865.v s3865.t65) (ix l s3865.t65).length) <|
          some (decide ((ix (ix l s3865.t65) (ix s3865.v s3865.t65)) = s3431.1))
        else
          some false).bind fun s3905 =>
      if s3905 = true then
        need (InB s3865.t65 s3865.v.length) <|
        need (InB s3865.t65 s3865.v.length) <|
        need (InB s3865.t65 s3865.v.length) <|
        need (InB s3865.t65 s3865.v.length) <|
        if s3865.first = true then
          some (IntKind.wrap .i64 (s3865.n + 1), true, upd s3865.v s3865.t65 (IntKind.wrap .i64 ((ix s3865.v s3865.t65) + 1)))
        else
          some (IntKind.wrap .i64 (s3865.n + 1), decide (s3865.t65 = 0), upd s3865.v s3865.t65 (IntKind.wrap .i64 ((ix s3865.v s3865.t65) + 1)))
      else
        some (s3865.n, s3865.first, s3865.v)).bind fun s3894 =>
    some (.inl ⟨s3894.1, s3894.2.1, IntKind.wrap .i64 (s3865.t65 + 1), s3894.2.2⟩)
  else
    some (.inr (s3865.n, s3865.first, s3865.v))

noncomputable def member.merge_member_Inter_1.loop4 (l : List (List (List UInt8))) (s3431 : (List UInt8) × Bool) (s3865 : member.merge_member_Inter_1.S4) : Option (Int × Bool × (List Int)) := whileO (member.merge_member_Inter_1.body4 l s3431) s3865

noncomputable def member.merge_member_Inter_1.body0 (l : List (List (List UInt8))) (b0_ : List (List (List UInt8))) (s3272 : member.merge_member_Inter_1.S0) : Option (member.merge_member_Inter_1.S0 ⊕ (List (List UInt8))) :=
  (member.merge_member_Inter_1.loop2 l s3272 ⟨([] : List UInt8), false, 0⟩).bind fun s3431 =>
  if (!s3431.2) = true then
    some (.inr s3272.out)
  else
    (member.merge_member_Inter_1.loop4 l s3431 ⟨0, false, 0, s3272.v⟩).bind fun s3754 =>
    (member.Inter_1 s3754.1 s3754.2.1 b0_).bind fun r3923 =>
    if r3923 = true then
      need ((s3272.out.length + [s3431.1].length) * 16 ≤ 140737488355328) <|
      some (.inl ⟨s3272.out ++ [s3431.1], s3754.2.2⟩)
    else
      some (.inl ⟨s3272.out, s3754.2.2⟩)

noncomputable def member.merge_member_Inter_1.loop0 (l : List (List (List UInt8))) (b0_ : List (List (List UInt8))) (s3272 : member.merge_member_Inter_1.S0) : Option (List (List UInt8)) := whileO (member.merge_member_Inter_1.body0 l b0_) s3272

noncomputable def member.merge_member_Inter_1 (l : List (List (List UInt8))) (b0_ : List (List (List UInt8))) : Option (List (List UInt8)) :=
  need (Room (l.length : Int) 8) <|
  member.merge_member_Inter_1.loop0 l b0_ ⟨([] : List (List UInt8)), List.replicate (Int.toNat (l.length : Int)) (0 : Int)⟩

noncomputable def member.Inter (l : List (List (List UInt8))) : Option (List (List UInt8)) :=
  (member.merge_member_Inter_1 l l).bind fun r5 =>
  some r5

noncomputable def member.Diff_1 (n_ : Int) (first : Bool) : Option Bool :=
  letO (
    if first = true then
      decide (n_ = 1)
    else
      false) fun s7 =>
  some s7

structure member.merge_member_Diff_1.S0 where
  out : List (List UInt8)
  v : List Int

structure member.merge_member_Diff_1.S2 where
  least : List UInt8
  some_ : Bool
  t18 : Int

noncomputable def member.merge_member_Diff_1.body2 (l : List (List (List UInt8))) (s3272 : member.merge_member_Diff_1.S0) (s3528 : member.merge_member_Diff_1.S2) : Option (member.merge_member_Diff_1.S2 ⊕ ((List UInt8) × Bool)) :=
  if s3528.t18 < (l.length : Int) then
    (
      (
        need (InB s3528.t18 s3272.v.length) <|
        need (InB s3528.t18 s3272.v.length) <|
        need (InB s3528.t18 l.length) <|
        if (ix s3272.v s3528.t18) < ((ix l s3528.t18).length : Int) then
          if (!s3528.some_) = true then
            some true
          else
            need (InB s3528.t18 l.length) <|
            need (InB s3528.t18 s3272.v.length) <|
            need (InB s3528.t18 s3272.v.length) <|
            need (InB (ix s3272.v s3528.t18) (ix l s3528.t18).length) <|
            some (strLt (ix (ix l s3528.t18) (ix s3272.v s3528.t18)) s3528.least)
        else
          some false).bind fun s3570 =>
      if s3570 = true then
        need (InB s3528.t18 l.length) <|
        need (InB s3528.t18 s3272.v.length) <|
        need (InB s3528.t18 s3272.v.length) <|
        need (InB (ix s3272.v s3528.t18) (ix l s3528.t18).length) <|
        some (ix (ix l s3528.t18) (ix s3272.v s3528.t18), true)
      else
        some (s3528.least, s3528.some_)).bind fun s3558 =>
    some (.inl ⟨s3558.1, s3558.2, IntKind.wrap .i64 (s3528.t18 + 1)⟩)
  else
    some (.inr (s3528.least, s3528.some_))

noncomputable def member.merge_member_Diff_1.loop2 (l : List (List (List UInt8))) (s3272 : member.merge_member_Diff_1.S0) (s3528 : member.merge_member_Diff_1.S2) : Option ((List UInt8) × Bool) := whileO (member.merge_member_Diff_1.body2 l s3272) s3528

structure member.merge_member_Diff_1.S4 where
  n : Int
  first : Bool
  t65 : Int
  v : List Int

noncomputable def member.merge_member_Diff_1.body4 (l : List (List (List UInt8))) (s3431 : (List UInt8) × Bool) (s3865 : member.merge_member_Diff_1.S4) : Option (member.merge_member_Diff_1.S4 ⊕ (Int × Bool × (List Int))) :=
  if s3865.t65 < (l.length : Int) then
    (
      (
        need (InB s3865.t65 s3865.v.length) <|
        need (InB s3865.t65 s3865.v.length) <|
        need (InB s3865.t65 l.length) <|
        if (ix s3865.v s3865.t65) < ((ix l s3865.t65).length : Int) then
          need (InB s3865.t65 l.length) <|
          need (InB s3865.t65 s3865.v.length) <|
          need (InB s3865.t65 s3865.v.length) <|
          need (InB (ix s3865.v s3865.t65) (ix l s3865.t65).length) <|
          some (decide ((ix (ix l s3865.t65) (ix s3865.v s3865.t65)) = s3431.1))
        else
          some false).bind fun s3905 =>
      if s3905 = true then
        need (InB s3865.t65 s3865.v.length) <|
        need (InB s3865.t65 s3865.v.length) <|
        need (InB s3865.t65 s3865.v.length) <|
        need (InB s3865.t65 s3865.v.length) <|
        if s3865.first = true then
          some (IntKind.wrap .i64 (s3865.n + 1), true, upd s3865.v s3865.t65 (IntKind.wrap .i64 ((ix s3865.v s3865.t65) + 1)))
        else
          some (IntKind.wrap .i64 (s3865.n + 1), decide (s3865.t65 = 0), upd s3865.v s3865.t65 (IntKind.wrap .i64 ((ix s3865.v s3865.t65) + 1)))
      else
        some (s3865.n, s3865.first, s3865.v)).bind fun s3894 =>
    some (.inl ⟨s3894.1, s3894.2.1, IntKind.wrap .i64 (s3865.t65 + 1), s3894.2.2⟩)
  else
    some (.inr (s3865.n, s3865.first, s3865.v))

noncomputable def member.merge_member_Diff_1.loop4 (l : List (List (List UInt8))) (s3431 : (List UInt8) × Bool) (s3865 : member.merge_member_Diff_1.S4) : Option (Int × Bool × (List Int)) := whileO (member.merge_member_Diff_1.body4 l s3431) s3865

noncomputable def member.merge_member_Diff_1.body0 (l : List (List (List UInt8))) (s3272 : member.merge_member_Diff_1.S0) : Option (member.merge_member_Diff_1.S0 ⊕ (List (List UInt8))) :=
  (member.merge_member_Diff_1.loop2 l s3272 ⟨([] : List UInt8), false, 0⟩).bind fun s3431 =>
  if (!s3431.2) = true then
    some (.inr s3272.out)
  else
    (member.merge_member_Diff_1.loop4 l s3431 ⟨0, false, 0, s3272.v⟩).bind fun s3754 =>
    (member.Diff_1 s3754.1 s3754.2.1).bind fun r3923 =>
    if r3923 = true then
      need ((s3272.out.length + [s3431.1].length) * 16 ≤ 140737488355328) <|
      some (.inl ⟨s3272.out ++ [s3431.1], s3754.2.2⟩)
    else
      some (.inl ⟨s3272.out, s3754.2.2⟩)

noncomputable def member.merge_member_Diff_1.loop0 (l : List (List (List UInt8))) (s3272 : member.merge_member_Diff_1.S0) : Option (List (List UInt8)) := whileO (member.merge_member_Diff_1.body0 l) s3272

noncomputable def member.merge_member_Diff_1 (l : List (List (List UInt8))) : Option (List (List UInt8)) :=
  need (Room (l.length : Int) 8) <|
  member.merge_member_Diff_1.loop0 l ⟨([] : List (List UInt8)), List.replicate (Int.toNat (l.length : Int)) (0 : Int)⟩

noncomputable def member.Diff (l : List (List (List UInt8))) : Option (List (List UInt8)) :=
  (member.merge_member_Diff_1 l).bind fun r3 =>
  some r3

noncomputable def mewslaw23.alive  : Option Bool :=
  (
    (member.Union [[[97], [98]], [[98], [99]]]).bind fun r40 =>
    (mewsref02.Same r40 [[97], [98], [99]]).bind fun r42 =>
    if r42 = true then
      (member.Inter [[[97], [98]], [[98], [99]]]).bind fun r44 =>
      (mewsref02.Same r44 [[98]]).bind fun r46 =>
      if r46 = true then
        (member.Diff [[[97], [98]], [[98], [99]]]).bind fun r48 =>
        (mewsref02.Same r48 [[97]]).bind fun r50 =>
        some r50
      else
        some false
    else
      some false).bind fun s37 =>
  some s37

structure mewsref23.Has.S0 where
  i : Int

noncomputable def mewsref23.Has.body0 (l : List (List UInt8)) (s_ : List UInt8) (s61 : mewsref23.Has.S0) : Option (mewsref23.Has.S0 ⊕ (Unit ⊕ Bool)) :=
  if s61.i < (l.length : Int) then
    need (InB s61.i l.length) <|
    if (ix l s61.i) = s_ then
      some (.inr (.inr true))
    else
      some (.inl ⟨IntKind.wrap .i64 (s61.i + 1)⟩)
  else
    some (.inr (.inl ()))

noncomputable def mewsref23.Has.loop0 (l : List (List UInt8)) (s_ : List UInt8) (s61 : mewsref23.Has.S0) : Option (Unit ⊕ Bool) := whileO (mewsref23.Has.body0 l s_) s61

noncomputable def mewsref23.Has (l : List (List UInt8)) (s_ : List UInt8) : Option Bool :=
  (mewsref23.Has.loop0 l s_ ⟨0⟩).bind fun s68 => onSum s68 (fun s50 =>
    some false) fun s68x => some s68x

structure mewsref19.With.S0 where
  i : Int

noncomputable def mewsref19.With.body0 (l : List (List UInt8)) (s_ : List UInt8) (s131 : mewsref19.With.S0) : Option (mewsref19.With.S0 ⊕ Int) :=
  (
    if s131.i < (l.length : Int) then
      need (InB s131.i l.length) <|
      some (strLt (ix l s131.i) s_)
    else
      some false).bind fun s137 =>
  if s137 = true then
    some (.inl ⟨IntKind.wrap .i64 (s131.i + 1)⟩)
  else
    some (.inr s131.i)

noncomputable def mewsref19.With.loop0 (l : List (List UInt8)) (s_ : List UInt8) (s131 : mewsref19.With.S0) : Option Int := whileO (mewsref19.With.body0 l s_) s131

noncomputable def mewsref19.With (l : List (List UInt8)) (s_ : List UInt8) : Option (List (List UInt8)) :=
  (mewsref19.With.loop0 l s_ ⟨0⟩).bind fun s110 =>
  (
    if s110 < (l.length : Int) then
      need (InB s110 l.length) <|
      some (decide ((ix l s110) = s_))
    else
      some false).bind fun s145 =>
  if s145 = true then
    some l
  else
    need (InR 0 s110 l.length) <|
    need ((([] : List (List UInt8)).length + (sub l 0 s110).length) * 16 ≤ 140737488355328) <|
    need (((([] : List (List UInt8)) ++ (sub l 0 s110)).length + [s_].length) * 16 ≤ 140737488355328) <|
    need (InR s110 (l.length : Int) l.length) <|
    need ((((([] : List (List UInt8)) ++ (sub l 0 s110)) ++ [s_]).length + (sub l s110 (l.length : Int)).length) * 16 ≤ 140737488355328) <|
    some (((([] : List (List UInt8)) ++ (sub l 0 s110)) ++ [s_]) ++ (sub l s110 (l.length : Int)))

structure mewsref23.Put.S0 where
  l : List (List UInt8)
  n : Int
  i : Int

noncomputable def mewsref23.Put.body0 (members : List (List UInt8)) (s181 : mewsref23.Put.S0) : Option (mewsref23.Put.S0 ⊕ ((List (List UInt8)) × Int)) :=
  if s181.i < (members.length : Int) then
    (
      need (InB s181.i members.length) <|
      (mewsref23.Has s181.l (ix members s181.i)).bind fun r194 =>
      if (!r194) = true then
        need (InB s181.i members.length) <|
        (mewsref19.With s181.l (ix members s181.i)).bind fun r196 =>
        some (r196, IntKind.wrap .i64 (s181.n + 1))
      else
        some (s181.l, s181.n)).bind fun s190 =>
    some (.inl ⟨s190.1, s190.2, IntKind.wrap .i64 (s181.i + 1)⟩)
  else
    some (.inr (s181.l, s181.n))

noncomputable def mewsref23.Put.loop0 (members : List (List UInt8)) (s181 : mewsref23.Put.S0) : Option ((List (List UInt8)) × Int) := whileO (mewsref23.Put.body0 members) s181

noncomputable def mewsref23.Put (l : List (List UInt8)) (members : List (List UInt8)) : Option ((List (List UInt8)) × Int) :=
  (mewsref23.Put.loop0 members ⟨l, 0, 0⟩).bind fun s148 =>
  some (s148.1, s148.2)

noncomputable def mewsref23.Rising (l : List (List UInt8)) : Option (List (List UInt8)) :=
  (mewsref23.Put ([] : List (List UInt8)) l).bind fun r2 =>
  some r2.1

structure mewsref23.Union.S0 where
  out : List (List UInt8)
  i : Int

noncomputable def mewsref23.Union.body0 (l : List (List (List UInt8))) (s60 : mewsref23.Union.S0) : Option (mewsref23.Union.S0 ⊕ (List (List UInt8))) :=
  if s60.i < (l.length : Int) then
    need (InB s60.i l.length) <|
    (mewsref23.Put s60.out (ix l s60.i)).bind fun r65 =>
    some (.inl ⟨r65.1, IntKind.wrap .i64 (s60.i + 1)⟩)
  else
    some (.inr s60.out)

noncomputable def mewsref23.Union.loop0 (l : List (List (List UInt8))) (s60 : mewsref23.Union.S0) : Option (List (List UInt8)) := whileO (mewsref23.Union.body0 l) s60

noncomputable def mewsref23.Union (l : List (List (List UInt8))) : Option (List (List UInt8)) :=
  (mewsref23.Union.loop0 l ⟨([] : List (List UInt8)), 0⟩).bind fun s49 =>
  some s49

structure mewsref23.Inter.S0 where
  out : List (List UInt8)
  k : Int

structure mewsref23.Inter.S2 where
  all_ : Bool
  i : Int

noncomputable def mewsref23.Inter.body2 (l : List (List (List UInt8))) (s2375 : mewsref23.Inter.S0) (s2568 : mewsref23.Inter.S2) : Option (mewsref23.Inter.S2 ⊕ Bool) :=
  if s2568.i < (l.length : Int) then
    (
      if s2568.all_ = true then
        need (InB s2568.i l.length) <|
        need (InB 0 l.length) <|
        need (InB s2375.k (ix l 0).length) <|
        (mewsref23.Has (ix l s2568.i) (ix (ix l 0) s2375.k)).bind fun r2584 =>
        some r2584
      else
        some false).bind fun s2577 =>
    some (.inl ⟨s2577, IntKind.wrap .i64 (s2568.i + 1)⟩)
  else
    some (.inr s2568.all_)

noncomputable def mewsref23.Inter.loop2 (l : List (List (List UInt8))) (s2375 : mewsref23.Inter.S0) (s2568 : mewsref23.Inter.S2) : Option Bool := whileO (mewsref23.Inter.body2 l s2375) s2568

noncomputable def mewsref23.Inter.body0 (l : List (List (List UInt8))) (s2375 : mewsref23.Inter.S0) : Option (mewsref23.Inter.S0 ⊕ (List (List UInt8))) :=
  (
    if 0 < (l.length : Int) then
      need (InB 0 l.length) <|
      some (decide (s2375.k < ((ix l 0).length : Int)))
    else
      some false).bind fun s2382 =>
  if s2382 = true then
    (
      (mewsref23.Inter.loop2 l s2375 ⟨true, 1⟩).bind fun s2537 =>
      if s2537 = true then
        need (InB 0 l.length) <|
        need (InB s2375.k (ix l 0).length) <|
        need ((s2375.out.length + [ix (ix l 0) s2375.k].length) * 16 ≤ 140737488355328) <|
        some (s2375.out ++ [ix (ix l 0) s2375.k])
      else
        some s2375.out).bind fun s2487 =>
    some (.inl ⟨s2487, IntKind.wrap .i64 (s2375.k + 1)⟩)
  else
    some (.inr s2375.out)

noncomputable def mewsref23.Inter.loop0 (l : List (List (List UInt8))) (s2375 : mewsref23.Inter.S0) : Option (List (List UInt8)) := whileO (mewsref23.Inter.body0 l) s2375

noncomputable def mewsref23.Inter (l : List (List (List UInt8))) : Option (List (List UInt8)) :=
  (mewsref23.Inter.loop0 l ⟨([] : List (List UInt8)), 0⟩).bind fun s1943 =>
  some s1943

structure mewsref23.Diff.S0 where
  out : List (List UInt8)
  k : Int

structure mewsref23.Diff.S2 where
  none_ : Bool
  i : Int

noncomputable def mewsref23.Diff.body2 (l : List (List (List UInt8))) (s2375 : mewsref23.Diff.S0) (s2568 : mewsref23.Diff.S2) : Option (mewsref23.Diff.S2 ⊕ Bool) :=
  if s2568.i < (l.length : Int) then
    (
      if s2568.none_ = true then
        need (InB s2568.i l.length) <|
        need (InB 0 l.length) <|
        need (InB s2375.k (ix l 0).length) <|
        (mewsref23.Has (ix l s2568.i) (ix (ix l 0) s2375.k)).bind fun r2584 =>
        some (!r2584)
      else
        some false).bind fun s2577 =>
    some (.inl ⟨s2577, IntKind.wrap .i64 (s2568.i + 1)⟩)
  else
    some (.inr s2568.none_)

noncomputable def mewsref23.Diff.loop2 (l : List (List (List UInt8))) (s2375 : mewsref23.Diff.S0) (s2568 : mewsref23.Diff.S2) : Option Bool := whileO (mewsref23.Diff.body2 l s2375) s2568

noncomputable def mewsref23.Diff.body0 (l : List (List (List UInt8))) (s2375 : mewsref23.Diff.S0) : Option (mewsref23.Diff.S0 ⊕ (List (List UInt8))) :=
  (
    if 0 < (l.length : Int) then
      need (InB 0 l.length) <|
      some (decide (s2375.k < ((ix l 0).length : Int)))
    else
      some false).bind fun s2382 =>
  if s2382 = true then
    (
      (mewsref23.Diff.loop2 l s2375 ⟨true, 1⟩).bind fun s2537 =>
      if s2537 = true then
        need (InB 0 l.length) <|
        need (InB s2375.k (ix l 0).length) <|
        need ((s2375.out.length + [ix (ix l 0) s2375.k].length) * 16 ≤ 140737488355328) <|
        some (s2375.out ++ [ix (ix l 0) s2375.k])
      else
        some s2375.out).bind fun s2487 =>
    some (.inl ⟨s2487, IntKind.wrap .i64 (s2375.k + 1)⟩)
  else
    some (.inr s2375.out)

noncomputable def mewsref23.Diff.loop0 (l : List (List (List UInt8))) (s2375 : mewsref23.Diff.S0) : Option (List (List UInt8)) := whileO (mewsref23.Diff.body0 l) s2375

noncomputable def mewsref23.Diff (l : List (List (List UInt8))) : Option (List (List UInt8)) :=
  (mewsref23.Diff.loop0 l ⟨([] : List (List UInt8)), 0⟩).bind fun s1943 =>
  some s1943

structure mewslaw23.MemberJoins.S0 where
  m : List (List (List UInt8))
  t11 : Int

noncomputable def mewslaw23.MemberJoins.body0 (l : List (List (List UInt8))) (s138 : mewslaw23.MemberJoins.S0) : Option (mewslaw23.MemberJoins.S0 ⊕ (List (List (List UInt8)))) :=
  if s138.t11 < (l.length : Int) then
    need (InB s138.t11 l.length) <|
    (mewsref23.Rising (ix l s138.t11)).bind fun r144 =>
    need ((s138.m.length + [r144].length) * 24 ≤ 140737488355328) <|
    some (.inl ⟨s138.m ++ [r144], IntKind.wrap .i64 (s138.t11 + 1)⟩)
  else
    some (.inr s138.m)

noncomputable def mewslaw23.MemberJoins.loop0 (l : List (List (List UInt8))) (s138 : mewslaw23.MemberJoins.S0) : Option (List (List (List UInt8))) := whileO (mewslaw23.MemberJoins.body0 l) s138

noncomputable def mewslaw23.MemberJoins (l : List (List (List UInt8))) : Option Bool :=
  (mewslaw23.far l).bind fun r95 =>
  if r95 = true then
    (mewslaw23.alive).bind fun r96 =>
    some r96
  else
    (mewslaw23.MemberJoins.loop0 l ⟨([] : List (List (List UInt8))), 0⟩).bind fun s121 =>
    (
      (member.Union s121).bind fun r170 =>
      (mewsref23.Union s121).bind fun r172 =>
      (mewsref02.Same r170 r172).bind fun r173 =>
      if r173 = true then
        (member.Inter s121).bind fun r175 =>
        (mewsref23.Inter s121).bind fun r177 =>
        (mewsref02.Same r175 r177).bind fun r179 =>
        if r179 = true then
          (member.Diff s121).bind fun r181 =>
          (mewsref23.Diff s121).bind fun r183 =>
          (mewsref02.Same r181 r183).bind fun r185 =>
          if r185 = true then
            (mewslaw23.alive).bind fun r187 =>
            some r187
          else
            some false
        else
          some false
      else
        some false).bind fun s167 =>
    some s167

structure mewslaw23.MemberParts.S0 where
  t73 : Int

noncomputable def mewslaw23.MemberParts.body0 (r223 : List (List UInt8)) (r217 : List (List UInt8)) (r218 : List (List UInt8)) (s365 : mewslaw23.MemberParts.S0) : Option (mewslaw23.MemberParts.S0 ⊕ (Unit ⊕ Bool)) :=
  if s365.t73 < (r223.length : Int) then
    need (InB s365.t73 r223.length) <|
    (
      (mewsref23.Has r217 (ix r223 s365.t73)).bind fun r381 =>
      if (!r381) = true then
        (mewsref23.Has r218 (ix r223 s365.t73)).bind fun r383 =>
        if (!r383) = true then
          some true
        else
          if 0 < s365.t73 then
            need (InB (IntKind.wrap .i64 (s365.t73 - 1)) r223.length) <|
            some (!strLt (ix r223 (IntKind.wrap .i64 (s365.t73 - 1))) (ix r223 s365.t73))
          else
            some false
      else
        if 0 < s365.t73 then
          need (InB (IntKind.wrap .i64 (s365.t73 - 1)) r223.length) <|
          some (!strLt (ix r223 (IntKind.wrap .i64 (s365.t73 - 1))) (ix r223 s365.t73))
        else
          some false).bind fun s378 =>
    if s378 = true then
      some (.inr (.inr false))
    else
      some (.inl ⟨IntKind.wrap .i64 (s365.t73 + 1)⟩)
  else
    some (.inr (.inl ()))

noncomputable def mewslaw23.MemberParts.loop0 (r223 : List (List UInt8)) (r217 : List (List UInt8)) (r218 : List (List UInt8)) (s365 : mewslaw23.MemberParts.S0) : Option (Unit ⊕ Bool) := whileO (mewslaw23.MemberParts.body0 r223 r217 r218) s365

noncomputable def mewslaw23.MemberParts (a : List (List UInt8)) (b : List (List UInt8)) : Option Bool :=
  (mewslaw23.far [a, b]).bind fun r215 =>
  if r215 = true then
    (mewslaw23.alive).bind fun r216 =>
    some r216
  else
    (mewsref23.Rising a).bind fun r217 =>
    (mewsref23.Rising b).bind fun r218 =>
    (member.Diff [r217, r218]).bind fun r219 =>
    (member.Inter [r217, r218]).bind fun r221 =>
    (member.Union [r217, r218]).bind fun r223 =>
    (
      (member.Union [r219, r221]).bind fun r236 =>
      (mewsref02.Same r236 r217).bind fun r238 =>
      if (!r238) = true then
        some true
      else
        if (IntKind.wrap .i64 ((r219.length : Int) + (r221.length : Int))) = (r217.length : Int) then
          if (r223.length : Int) = (IntKind.wrap .i64 ((IntKind.wrap .i64 ((r217.length : Int) + (r218.length : Int))) - (r221.length : Int))) then
            (member.Inter [r219, r221]).bind fun r242 =>
            some (!decide ((r242.length : Int) = 0))
          else
            some true
        else
          some true).bind fun s233 =>
    if s233 = true then
      some false
    else
      (mewslaw23.MemberParts.loop0 r223 r217 r218 ⟨0⟩).bind fun s426 => onSum s426 (fun s316 =>
        (
          (member.Union [r217, r217]).bind fun r410 =>
          (mewsref02.Same r410 r217).bind fun r412 =>
          if r412 = true then
            (member.Inter [r217, r217]).bind fun r414 =>
            (mewsref02.Same r414 r217).bind fun r416 =>
            if r416 = true then
              (member.Diff [r217, r217]).bind fun r418 =>
              if (r418.length : Int) = 0 then
                (member.Union [r218, r217]).bind fun r421 =>
                (mewsref02.Same r223 r421).bind fun r423 =>
                if r423 = true then
                  (mewslaw23.alive).bind fun r425 =>
                  some r425
                else
                  some false
              else
                some false
            else
              some false
          else
            some false).bind fun s407 =>
        some s407) fun s426x => some s426x

end Go.Pu
