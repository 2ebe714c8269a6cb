/- Printed by lift.py: the same functions, with rounds that are counted. -/
import Derived.Test.YtjbphnophcpdeaaMBP
set_option maxRecDepth 100000
set_option maxHeartbeats 0
namespace Go.Pu
open Go.Lift

def member.Union_1.c (k : Nat) (a0_ : Int) (a1_ : Bool) : Option Bool :=
 some true

theorem member.Union_1.c_le (k : Nat) (a0_ : Int) (a1_ : Bool) : OLe (member.Union_1.c k a0_ a1_) (member.Union_1 a0_ a1_) := by
 unfold member.Union_1.c member.Union_1
 repeat' with_reducible first | exact OLe.refl _ | apply OLe.bind | apply OLe.need | apply OLe.letO | apply OLe.onSum | apply OLe.ite | intro _

def member.merge_member_Union_1.body2.c (k : Nat) (l : List (List (List UInt8))) (s3272 : member.merge_member_Union_1.S0) (s3528 : member.merge_member_Union_1.S2) : Option (member.merge_member_Union_1.S2 ⊕ ((List UInt8) × Bool)) :=
 if s3528.t18 < (l.length : Int) then
  (
   (
    need (InB s3528.t18 s3272.v.length) <|
    need (InB s3528.t18 s3272.v.length) <|
    need (InB s3528.t18 l.length) <|
    if (ix s3272.v s3528.t18) < ((ix l s3528.t18).length : Int) then
     if (!s3528.some_) = true then
      some true
     else
      need (InB s3528.t18 l.length) <|
      need (InB s3528.t18 s3272.v.length) <|
      need (InB s3528.t18 s3272.v.length) <|
      need (InB (ix s3272.v s3528.t18) (ix l s3528.t18).length) <|
      some (strLt (ix (ix l s3528.t18) (ix s3272.v s3528.t18)) s3528.least)
    else
     some false).bind fun s3570 =>
   if s3570 = true then
    need (InB s3528.t18 l.length) <|
    need (InB s3528.t18 s3272.v.length) <|
    need (InB s3528.t18 s3272.v.length) <|
    need (InB (ix s3272.v s3528.t18) (ix l s3528.t18).length) <|
    some (ix (ix l s3528.t18) (ix s3272.v s3528.t18), true)
   else
    some (s3528.least, s3528.some_)).bind fun s3558 =>
  some (.inl ⟨s3558.1, s3558.2, IntKind.wrap .i64 (s3528.t18 + 1)⟩)
 else
  some (.inr (s3528.least, s3528.some_))

theorem member.merge_member_Union_1.body2.c_le (k : Nat) (l : List (List (List UInt8))) (s3272 : member.merge_member_Union_1.S0) (s3528 : member.merge_member_Union_1.S2) : OLe (member.merge_member_Union_1.body2.c k l s3272 s3528) (member.merge_member_Union_1.body2 l s3272 s3528) := by
 unfold member.merge_member_Union_1.body2.c member.merge_member_Union_1.body2
 repeat' with_reducible first | exact OLe.refl _ | apply OLe.bind | apply OLe.need | apply OLe.letO | apply OLe.onSum | apply OLe.ite | intro _

def member.merge_member_Union_1.loop2.c (k : Nat) (l : List (List (List UInt8))) (s3272 : member.merge_member_Union_1.S0) (s3528 : member.merge_member_Union_1.S2) : Option ((List UInt8) × Bool) := iterO (member.merge_member_Union_1.body2.c k l s3272) k s3528

theorem member.merge_member_Union_1.loop2.c_le (k : Nat) (l : List (List (List UInt8))) (s3272 : member.merge_member_Union_1.S0) (s3528 : member.merge_member_Union_1.S2) : OLe (member.merge_member_Union_1.loop2.c k l s3272 s3528) (member.merge_member_Union_1.loop2 l s3272 s3528) := by
 unfold member.merge_member_Union_1.loop2.c member.merge_member_Union_1.loop2
 exact OLe.iter (fun s => member.merge_member_Union_1.body2.c_le k l s3272 s) k _

def member.merge_member_Union_1.body4.c (k : Nat) (l : List (List (List UInt8))) (s3431 : (List UInt8) × Bool) (s3865 : member.merge_member_Union_1.S4) : Option (member.merge_member_Union_1.S4 ⊕ (Int × Bool × (List Int))) :=
 if s3865.t65 < (l.length : Int) then
  (
   (
    need (InB s3865.t65 s3865.v.length) <|
    need (InB s3865.t65 s3865.v.length) <|
    need (InB s3865.t65 l.length) <|
    if (ix s3865.v s3865.t65) < ((ix l s3865.t65).length : Int) then
     need (InB s3865.t65 l.length) <|
     need (InB s3865.t65 s3865.v.length) <|
     need (InB s3865.t65 s3865.v.length) <|
     need (InB (ix s3865.v s3865.t65) (ix l s3865.t65).length) <|
     some (decide ((ix (ix l s3865.t65) (ix s3865.v s3865.t65)) = s3431.1))
    else
     some false).bind fun s3905 =>
   if s3905 = true then
    need (InB s3865.t65 s3865.v.length) <|
    need (InB s3865.t65 s3865.v.length) <|
    need (InB s3865.t65 s3865.v.length) <|
    need (InB s3865.t65 s3865.v.length) <|
    if s3865.first = true then
     some (IntKind.wrap .i64 (s3865.n + 1), true, upd s3865.v s3865.t65 (IntKind.wrap .i64 ((ix s3865.v s3865.t65) + 1)))
    else
     some (IntKind.wrap .i64 (s3865.n + 1), decide (s3865.t65 = 0), upd s3865.v s3865.t65 (IntKind.wrap .i64 ((ix s3865.v s3865.t65) + 1)))
   else
    some (s3865.n, s3865.first, s3865.v)).bind fun s3894 =>
  some (.inl ⟨s3894.1, s3894.2.1, IntKind.wrap .i64 (s3865.t65 + 1), s3894.2.2⟩)
 else
  some (.inr (s3865.n, s3865.first, s3865.v))

theorem member.merge_member_Union_1.body4.c_le (k : Nat) (l : List (List (List UInt8))) (s3431 : (List UInt8) × Bool) (s3865 : member.merge_member_Union_1.S4) : OLe (member.merge_member_Union_1.body4.c k l s3431 s3865) (member.merge_member_Union_1.body4 l s3431 s3865) := by
 unfold member.merge_member_Union_1.body4.c member.merge_member_Union_1.body4
 repeat' with_reducible first | exact OLe.refl _ | apply OLe.bind | apply OLe.need | apply OLe.letO | apply OLe.onSum | apply OLe.ite | intro _

def member.merge_member_Union_1.loop4.c (k : Nat) (l : List (List (List UInt8))) (s3431 : (List UInt8) × Bool) (s3865 : member.merge_member_Union_1.S4) : Option (Int × Bool × (List Int)) := iterO (member.merge_member_Union_1.body4.c k l s3431) k s3865

theorem member.merge_member_Union_1.loop4.c_le (k : Nat) (l : List (List (List UInt8))) (s3431 : (List UInt8) × Bool) (s3865 : member.merge_member_Union_1.S4) : OLe (member.merge_member_Union_1.loop4.c k l s3431 s3865) (member.merge_member_Union_1.loop4 l s3431 s3865) := by
 unfold member.merge_member_Union_1.loop4.c member.merge_member_Union_1.loop4
 exact OLe.iter (fun s => member.merge_member_Union_1.body4.c_le k l s3431 s) k _

def member.merge_member_Union_1.body0.c (k : Nat) (l : List (List (List UInt8))) (s3272 : member.merge_member_Union_1.S0) : Option (member.merge_member_Union_1.S0 ⊕ (List (List UInt8))) :=
 (member.merge_member_Union_1.loop2.c k l s3272 ⟨([] : List UInt8), false, 0⟩).bind fun s3431 =>
 if (!s3431.2) = true then
  some (.inr s3272.out)
 else
  (member.merge_member_Union_1.loop4.c k l s3431 ⟨0, false, 0, s3272.v⟩).bind fun s3754 =>
  (member.Union_1.c k s3754.1 s3754.2.1).bind fun r3923 =>
  if r3923 = true then
   need ((s3272.out.length + [s3431.1].length) * 16 ≤ 140737488355328) <|
   some (.inl ⟨s3272.out ++ [s3431.1], s3754.2.2⟩)
  else
   some (.inl ⟨s3272.out, s3754.2.2⟩)

theorem member.merge_member_Union_1.body0.c_le (k : Nat) (l : List (List (List UInt8))) (s3272 : member.merge_member_Union_1.S0) : OLe (member.merge_member_Union_1.body0.c k l s3272) (member.merge_member_Union_1.body0 l s3272) := by
 unfold member.merge_member_Union_1.body0.c member.merge_member_Union_1.body0
 repeat' with_reducible first | exact OLe.refl _ | apply member.merge_member_Union_1.loop2.c_le | apply member.merge_member_Union_1.loop4.c_le | apply member.Union_1.c_le | apply OLe.bind | apply OLe.need | apply OLe.letO | apply OLe.onSum | apply OLe.ite | intro _

def member.merge_member_Union_1.loop0.c (k : Nat) (l : List (List (List UInt8))) (s3272 : member.merge_member_Union_1.S0) : Option (List (List UInt8)) := iterO (member.merge_member_Union_1.body0.c k l) k s3272

theorem member.merge_member_Union_1.loop0.c_le (k : Nat) (l : List (List (List UInt8))) (s3272 : member.merge_member_Union_1.S0) : OLe (member.merge_member_Union_1.loop0.c k l s3272) (member.merge_member_Union_1.loop0 l s3272) := by
 unfold member.merge_member_Union_1.loop0.c member.merge_member_Union_1.loop0
 exact OLe.iter (fun s => member.merge_member_Union_1.body0.c_le k l s) k _

def member.merge_member_Union_1.c (k : Nat) (l : List (List (List UInt8))) : Option (List (List UInt8)) :=
 need (Room (l.length : Int) 8) <|
 member.merge_member_Union_1.loop0.c k l ⟨([] : List (List UInt8)), List.replicate (Int.toNat (l.length : Int)) (0 : Int)⟩

theorem member.merge_member_Union_1.c_le (k : Nat) (l : List (List (List UInt8))) : OLe (member.merge_member_Union_1.c k l) (member.merge_member_Union_1 l) := by
 unfold member.merge_member_Union_1.c member.merge_member_Union_1
 repeat' with_reducible first | exact OLe.refl _ | apply member.merge_member_Union_1.loop0.c_le | apply OLe.bind | apply OLe.need | apply OLe.letO | apply OLe.onSum | apply OLe.ite | intro _

def member.Union.c (k : Nat) (l : List (List (List UInt8))) : Option (List (List UInt8)) :=
 (member.merge_member_Union_1.c k l).bind fun r3 =>
 some r3

theorem member.Union.c_le (k : Nat) (l : List (List (List UInt8))) : OLe (member.Union.c k l) (member.Union l) := by
 unfold member.Union.c member.Union
 repeat' with_reducible first | exact OLe.refl _ | apply member.merge_member_Union_1.c_le | apply OLe.bind | apply OLe.need | apply OLe.letO | apply OLe.onSum | apply OLe.ite | intro _

def mewsref02.Same.body0.c (k : Nat) (a : List (List UInt8)) (b : List (List UInt8)) (s73 : mewsref02.Same.S0) : Option (mewsref02.Same.S0 ⊕ (Unit ⊕ Bool)) :=
 if s73.i < (a.length : Int) then
  need (InB s73.i a.length) <|
  need (InB s73.i b.length) <|
  if (ix a s73.i) = (ix b s73.i) then
   some (.inl ⟨IntKind.wrap .i64 (s73.i + 1)⟩)
  else
   some (.inr (.inr false))
 else
  some (.inr (.inl ()))

theorem mewsref02.Same.body0.c_le (k : Nat) (a : List (List UInt8)) (b : List (List UInt8)) (s73 : mewsref02.Same.S0) : OLe (mewsref02.Same.body0.c k a b s73) (mewsref02.Same.body0 a b s73) := by
 unfold mewsref02.Same.body0.c mewsref02.Same.body0
 repeat' with_reducible first | exact OLe.refl _ | apply OLe.bind | apply OLe.need | apply OLe.letO | apply OLe.onSum | apply OLe.ite | intro _

def mewsref02.Same.loop0.c (k : Nat) (a : List (List UInt8)) (b : List (List UInt8)) (s73 : mewsref02.Same.S0) : Option (Unit ⊕ Bool) := iterO (mewsref02.Same.body0.c k a b) k s73

theorem mewsref02.Same.loop0.c_le (k : Nat) (a : List (List UInt8)) (b : List (List UInt8)) (s73 : mewsref02.Same.S0) : OLe (mewsref02.Same.loop0.c k a b s73) (mewsref02.Same.loop0 a b s73) := by
 unfold mewsref02.Same.loop0.c mewsref02.Same.loop0
 exact OLe.iter (fun s => mewsref02.Same.body0.c_le k a b s) k _

def mewsref02.Same.c (k : Nat) (a : List (List UInt8)) (b : List (List UInt8)) : Option Bool :=
 if (a.length : Int) = (b.length : Int) then
  (mewsref02.Same.loop0.c k a b ⟨0⟩).bind fun s81 => onSum s81 (fun s60 =>
   some true) fun s81x => some s81x
 else
  some false

theorem mewsref02.Same.c_le (k : Nat) (a : List (List UInt8)) (b : List (List UInt8)) : OLe (mewsref02.Same.c k a b) (mewsref02.Same a b) := by
 unfold mewsref02.Same.c mewsref02.Same
 repeat' with_reducible first | exact OLe.refl _ | apply mewsref02.Same.loop0.c_le | apply OLe.bind | apply OLe.need | apply OLe.letO | apply OLe.onSum | apply OLe.ite | intro _

def member.Inter_1.c (k : Nat) (n_ : Int) (a1_ : Bool) (a2_ : List (List (List UInt8))) : Option Bool :=
 some (decide (n_ = (a2_.length : Int)))

theorem member.Inter_1.c_le (k : Nat) (n_ : Int) (a1_ : Bool) (a2_ : List (List (List UInt8))) : OLe (member.Inter_1.c k n_ a1_ a2_) (member.Inter_1 n_ a1_ a2_) := by
 unfold member.Inter_1.c member.Inter_1
 repeat' with_reducible first | exact OLe.refl _ | apply OLe.bind | apply OLe.need | apply OLe.letO | apply OLe.onSum | apply OLe.ite | intro _

def member.merge_member_Inter_1.body2.c (k : Nat) (l : List (List (List UInt8))) (s3272 : member.merge_member_Inter_1.S0) (s3528 : member.merge_member_Inter_1.S2) : Option (member.merge_member_Inter_1.S2 ⊕ ((List UInt8) × Bool)) :=
 if s3528.t18 < (l.length : Int) then
  (
   (
    need (InB s3528.t18 s3272.v.length) <|
    need (InB s3528.t18 s3272.v.length) <|
    need (InB s3528.t18 l.length) <|
    if (ix s3272.v s3528.t18) < ((ix l s3528.t18).length : Int) then
     if (!s3528.some_) = true then
      some true
     else
      need (InB s3528.t18 l.length) <|
      need (InB s3528.t18 s3272.v.length) <|
      need (InB s3528.t18 s3272.v.length) <|
      need (InB (ix s3272.v s3528.t18) (ix l s3528.t18).length) <|
      some (strLt (ix (ix l s3528.t18) (ix s3272.v s3528.t18)) s3528.least)
    else
     some false).bind fun s3570 =>
   if s3570 = true then
    need (InB s3528.t18 l.length) <|
    need (InB s3528.t18 s3272.v.length) <|
    need (InB s3528.t18 s3272.v.length) <|
    need (InB (ix s3272.v s3528.t18) (ix l s3528.t18).length) <|
    some (ix (ix l s3528.t18) (ix s3272.v s3528.t18), true)
   else
    some (s3528.least, s3528.some_)).bind fun s3558 =>
  some (.inl ⟨s3558.1, s3558.2, IntKind.wrap .i64 (s3528.t18 + 1)⟩)
 else
  some (.inr (s3528.least, s3528.some_))

theorem member.merge_member_Inter_1.body2.c_le (k : Nat) (l : List (List (List UInt8))) (s3272 : member.merge_member_Inter_1.S0) (s3528 : member.merge_member_Inter_1.S2) : OLe (member.merge_member_Inter_1.body2.c k l s3272 s3528) (member.merge_member_Inter_1.body2 l s3272 s3528) := by
 unfold member.merge_member_Inter_1.body2.c member.merge_member_Inter_1.body2
 repeat' with_reducible first | exact OLe.refl _ | apply OLe.bind | apply OLe.need | apply OLe.letO | apply OLe.onSum | apply OLe.ite | intro _

def member.merge_member_Inter_1.loop2.c (k : Nat) (l : List (List (List UInt8))) (s3272 : member.merge_member_Inter_1.S0) (s3528 : member.merge_member_Inter_1.S2) : Option ((List UInt8) × Bool) := iterO (member.merge_member_Inter_1.body2.c k l s3272) k s3528

theorem member.merge_member_Inter_1.loop2.c_le (k : Nat) (l : List (List (List UInt8))) (s3272 : member.merge_member_Inter_1.S0) (s3528 : member.merge_member_Inter_1.S2) : OLe (member.merge_member_Inter_1.loop2.c k l s3272 s3528) (member.merge_member_Inter_1.loop2 l s3272 s3528) := by
 unfold member.merge_member_Inter_1.loop2.c member.merge_member_Inter_1.loop2
 exact OLe.iter (fun s => member.merge_member_Inter_1.body2.c_le k l s3272 s) k _

def member.merge_member_Inter_1.body4.c (k : Nat) (l : List (List (List UInt8))) (s3431 : (List UInt8) × Bool) (s3865 : member.merge_member_Inter_1.S4) : Option (member.merge_member_Inter_1.S4 ⊕ (Int × Bool × (List Int))) :=
 if s3865.t65 < (l.length : Int) then
  (
   (
    need (InB s3865.t65 s3865.v.length) <|
    need (InB s3865.t65 s3865.v.length) <|
    need (InB s3865.t65 l.length) <|
    if (ix s3865.v s3865.t65) < ((ix l s3865.t65).length : Int) then
     need (InB s3865.t65 l.length) <|
     need (InB s3865.t65 s3865.v.length) <|
     need (InB s3865.t65 s3865.v.length) <|
     need (InB (ix s3865.v s3865.t65) (ix l s3865.t65).length) <|
     some (decide ((ix (ix l s3865.t65) (ix s3865.v s3865.t65)) = s3431.1))
    else
     some false).bind fun s3905 =>
   if s3905 = true then
    need (InB s3865.t65 s3865.v.length) <|
    need (InB s3865.t65 s3865.v.length) <|
    need (InB s3865.t65 s3865.v.length) <|
    need (InB s3865.t65 s3865.v.length) <|
    if s3865.first = true then
     some (IntKind.wrap .i64 (s3865.n + 1), true, upd s3865.v s3865.t65 (IntKind.wrap .i64 ((ix s3865.v s3865.t65) + 1)))
    else
     some (IntKind.wrap .i64 (s3865.n + 1), decide (s3865.t65 = 0), upd s3865.v s3865.t65 (IntKind.wrap .i64 ((ix s3865.v s3865.t65) + 1)))
   else
    some (s3865.n, s3865.first, s3865.v)).bind fun s3894 =>
  some (.inl ⟨s3894.1, s3894.2.1, IntKind.wrap .i64 (s3865.t65 + 1), s3894.2.2⟩)
 else
  some (.inr (s3865.n, s3865.first, s3865.v))

theorem member.merge_member_Inter_1.body4.c_le (k : Nat) (l : List (List (List UInt8))) (s3431 : (List UInt8) × Bool) (s3865 : member.merge_member_Inter_1.S4) : OLe (member.merge_member_Inter_1.body4.c k l s3431 s3865) (member.merge_member_Inter_1.body4 l s3431 s3865) := by
 unfold member.merge_member_Inter_1.body4.c member.merge_member_Inter_1.body4
 repeat' with_reducible first | exact OLe.refl _ | apply OLe.bind | apply OLe.need | apply OLe.letO | apply OLe.onSum | apply OLe.ite | intro _

def member.merge_member_Inter_1.loop4.c (k : Nat) (l : List (List (List UInt8))) (s3431 : (List UInt8) × Bool) (s3865 : member.merge_member_Inter_1.S4) : Option (Int × Bool × (List Int)) := iterO (member.merge_member_Inter_1.body4.c k l s3431) k s3865

theorem member.merge_member_Inter_1.loop4.c_le (k : Nat) (l : List (List (List UInt8))) (s3431 : (List UInt8) × Bool) (s3865 : member.merge_member_Inter_1.S4) : OLe (member.merge_member_Inter_1.loop4.c k l s3431 s3865) (member.merge_member_Inter_1.loop4 l s3431 s3865) := by
 unfold member.merge_member_Inter_1.loop4.c member.merge_member_Inter_1.loop4
 exact OLe.iter (fun s => member.merge_member_Inter_1.body4.c_le k l s3431 s) k _

def member.merge_member_Inter_1.body0.c (k : Nat) (l : List (List (List UInt8))) (b0_ : List (List (List UInt8))) (s3272 : member.merge_member_Inter_1.S0) : Option (member.merge_member_Inter_1.S0 ⊕ (List (List UInt8))) :=
 (member.merge_member_Inter_1.loop2.c k l s3272 ⟨([] : List UInt8), false, 0⟩).bind fun s3431 =>
 if (!s3431.2) = true then
  some (.inr s3272.out)
 else
  (member.merge_member_Inter_1.loop4.c k l s3431 ⟨0, false, 0, s3272.v⟩).bind fun s3754 =>
  (member.Inter_1.c k s3754.1 s3754.2.1 b0_).bind fun r3923 =>
  if r3923 = true then
   need ((s3272.out.length + [s3431.1].length) * 16 ≤ 140737488355328) <|
   some (.inl ⟨s3272.out ++ [s3431.1], s3754.2.2⟩)
  else
   some (.inl ⟨s3272.out, s3754.2.2⟩)

theorem member.merge_member_Inter_1.body0.c_le (k : Nat) (l : List (List (List UInt8))) (b0_ : List (List (List UInt8))) (s3272 : member.merge_member_Inter_1.S0) : OLe (member.merge_member_Inter_1.body0.c k l b0_ s3272) (member.merge_member_Inter_1.body0 l b0_ s3272) := by
 unfold member.merge_member_Inter_1.body0.c member.merge_member_Inter_1.body0
 repeat' with_reducible first | exact OLe.refl _ | apply member.merge_member_Inter_1.loop2.c_le | apply member.merge_member_Inter_1.loop4.c_le | apply member.Inter_1.c_le | apply OLe.bind | apply OLe.need | apply OLe.letO | apply OLe.onSum | apply OLe.ite | intro _

def member.merge_member_Inter_1.loop0.c (k : Nat) (l : List (List (List UInt8))) (b0_ : List (List (List UInt8))) (s3272 : member.merge_member_Inter_1.S0) : Option (List (List UInt8)) := iterO (member.merge_member_Inter_1.body0.c k l b0_) k s3272

theorem member.merge_member_Inter_1.loop0.c_le (k : Nat) (l : List (List (List UInt8))) (b0_ : List (List (List UInt8))) (s3272 : member.merge_member_Inter_1.S0) : OLe (member.merge_member_Inter_1.loop0.c k l b0_ s3272) (member.merge_member_Inter_1.loop0 l b0_ s3272) := by
 unfold member.merge_member_Inter_1.loop0.c member.merge_member_Inter_1.loop0
 exact OLe.iter (fun s => member.merge_member_Inter_1.body0.c_le k l b0_ s) k _

def member.merge_member_Inter_1.c (k : Nat) (l : List (List (List UInt8))) (b0_ : List (List (List UInt8))) : Option (List (List UInt8)) :=
 need (Room (l.length : Int) 8) <|
 member.merge_member_Inter_1.loop0.c k l b0_ ⟨([] : List (List UInt8)), List.replicate (Int.toNat (l.length : Int)) (0 : Int)⟩

theorem member.merge_member_Inter_1.c_le (k : Nat) (l : List (List (List UInt8))) (b0_ : List (List (List UInt8))) : OLe (member.merge_member_Inter_1.c k l b0_) (member.merge_member_Inter_1 l b0_) := by
 unfold member.merge_member_Inter_1.c member.merge_member_Inter_1
 repeat' with_reducible first | exact OLe.refl _ | apply member.merge_member_Inter_1.loop0.c_le | apply OLe.bind | apply OLe.need | apply OLe.letO | apply OLe.onSum | apply OLe.ite | intro _

def member.Inter.c (k : Nat) (l : List (List (List UInt8))) : Option (List (List UInt8)) :=
 (member.merge_member_Inter_1.c k l l).bind fun r5 =>
 some r5

theorem member.Inter.c_le (k : Nat) (l : List (List (List UInt8))) : OLe (member.Inter.c k l) (member.Inter l) := by
 unfold member.Inter.c member.Inter
 repeat' with_reducible first | exact OLe.refl _ | apply member.merge_member_Inter_1.c_le | apply OLe.bind | apply OLe.need | apply OLe.letO | apply OLe.onSum | apply OLe.ite | intro _

def member.Diff_1.c (k : Nat) (n_ : Int) (first : Bool) : Option Bool :=
 letO (
  if first = true then
   decide (n_ = 1)
  else
   false) fun s7 =>
 some s7

theorem member.Diff_1.c_le (k : Nat) (n_ : Int) (first : Bool) : OLe (member.Diff_1.c k n_ first) (member.Diff_1 n_ first) := by
 unfold member.Diff_1.c member.Diff_1
 repeat' with_reducible first | exact OLe.refl _ | apply OLe.bind | apply OLe.need | apply OLe.letO | apply OLe.onSum | apply OLe.ite | intro _

def member.merge_member_Diff_1.body2.c (k : Nat) (l : List (List (List UInt8))) (s3272 : member.merge_member_Diff_1.S0) (s3528 : member.merge_member_Diff_1.S2) : Option (member.merge_member_Diff_1.S2 ⊕ ((List UInt8) × Bool)) :=
 if s3528.t18 < (l.length : Int) then
  (
   (
    need (InB s3528.t18 s3272.v.length) <|
    need (InB s3528.t18 s3272.v.length) <|
    need (InB s3528.t18 l.length) <|
    if (ix s3272.v s3528.t18) < ((ix l s3528.t18).length : Int) then
     if (!s3528.some_) = true then
      some true
     else
      need (InB s3528.t18 l.length) <|
      need (InB s3528.t18 s3272.v.length) <|
      need (InB s3528.t18 s3272.v.length) <|
      need (InB (ix s3272.v s3528.t18) (ix l s3528.t18).length) <|
      some (strLt (ix (ix l s3528.t18) (ix s3272.v s3528.t18)) s3528.least)
    else
     some false).bind fun s3570 =>
   if s3570 = true then
    need (InB s3528.t18 l.length) <|
    need (InB s3528.t18 s3272.v.length) <|
    need (InB s3528.t18 s3272.v.length) <|
    need (InB (ix s3272.v s3528.t18) (ix l s3528.t18).length) <|
    some (ix (ix l s3528.t18) (ix s3272.v s3528.t18), true)
   else
    some (s3528.least, s3528.some_)).bind fun s3558 =>
  some (.inl ⟨s3558.1, s3558.2, IntKind.wrap .i64 (s3528.t18 + 1)⟩)
 else
  some (.inr (s3528.least, s3528.some_))

theorem member.merge_member_Diff_1.body2.c_le (k : Nat) (l : List (List (List UInt8))) (s3272 : member.merge_member_Diff_1.S0) (s3528 : member.merge_member_Diff_1.S2) : OLe (member.merge_member_Diff_1.body2.c k l s3272 s3528) (member.merge_member_Diff_1.body2 l s3272 s3528) := by
 unfold member.merge_member_Diff_1.body2.c member.merge_member_Diff_1.body2
 repeat' with_reducible first | exact OLe.refl _ | apply OLe.bind | apply OLe.need | apply OLe.letO | apply OLe.onSum | apply OLe.ite | intro _

def member.merge_member_Diff_1.loop2.c (k : Nat) (l : List (List (List UInt8))) (s3272 : member.merge_member_Diff_1.S0) (s3528 : member.merge_member_Diff_1.S2) : Option ((List UInt8) × Bool) := iterO (member.merge_member_Diff_1.body2.c k l s3272) k s3528

theorem member.merge_member_Diff_1.loop2.c_le (k : Nat) (l : List (List (List UInt8))) (s3272 : member.merge_member_Diff_1.S0) (s3528 : member.merge_member_Diff_1.S2) : OLe (member.merge_member_Diff_1.loop2.c k l s3272 s3528) (member.merge_member_Diff_1.loop2 l s3272 s3528) := by
 unfold member.merge_member_Diff_1.loop2.c member.merge_member_Diff_1.loop2
 exact OLe.iter (fun s => member.merge_member_Diff_1.body2.c_le k l s3272 s) k _

def member.merge_member_Diff_1.body4.c (k : Nat) (l : List (List (List UInt8))) (s3431 : (List UInt8) × Bool) (s3865 : member.merge_member_Diff_1.S4) : Option (member.merge_member_Diff_1.S4 ⊕ (Int × Bool × (List Int))) :=
 if s3865.t65 < (l.length : Int) then
  (
   (
    need (InB s3865.t65 s3865.v.length) <|
    need (InB s3865.t65 s3865.v.length) <|
    need (InB s3865.t65 l.length) <|
    if (ix s3865.v s3865.t65) < ((ix l s3865.t65).length : Int) then
     need (InB s3865.t65 l.length) <|
     need (InB s3865.t65 s3865.v.length) <|
     need (InB s3865.t65 s3865.v.length) <|
     need (InB (ix s3865.v s3865.t65) (ix l s3865.t65).length) <|
     some (decide ((ix (ix l s3865.t65) (ix s3865.v s3865.t65)) = s3431.1))
    else
     some false).bind fun s3905 =>
   if s3905 = true then
    need (InB s3865.t65 s3865.v.length) <|
    need (InB s3865.t65 s3865.v.length) <|
    need (InB s3865.t65 s3865.v.length) <|
    need (InB s3865.t65 s3865.v.length) <|
    if s3865.first = true then
     some (IntKind.wrap .i64 (s3865.n + 1), true, upd s3865.v s3865.t65 (IntKind.wrap .i64 ((ix s3865.v s3865.t65) + 1)))
    else
     some (IntKind.wrap .i64 (s3865.n + 1), decide (s3865.t65 = 0), upd s3865.v s3865.t65 (IntKind.wrap .i64 ((ix s3865.v s3865.t65) + 1)))
   else
    some (s3865.n, s3865.first, s3865.v)).bind fun s3894 =>
  some (.inl ⟨s3894.1, s3894.2.1, IntKind.wrap .i64 (s3865.t65 + 1), s3894.2.2⟩)
 else
  some (.inr (s3865.n, s3865.first, s3865.v))

theorem member.merge_member_Diff_1.body4.c_le (k : Nat) (l : List (List (List UInt8))) (s3431 : (List UInt8) × Bool) (s3865 : member.merge_member_Diff_1.S4) : OLe (member.merge_member_Diff_1.body4.c k l s3431 s3865) (member.merge_member_Diff_1.body4 l s3431 s3865) := by
 unfold member.merge_member_Diff_1.body4.c member.merge_member_Diff_1.body4
 repeat' with_reducible first | exact OLe.refl _ | apply OLe.bind | apply OLe.need | apply OLe.letO | apply OLe.onSum | apply OLe.ite | intro _

def member.merge_member_Diff_1.loop4.c (k : Nat) (l : List (List (List UInt8))) (s3431 : (List UInt8) × Bool) (s3865 : member.merge_member_Diff_1.S4) : Option (Int × Bool × (List Int)) := iterO (member.merge_member_Diff_1.body4.c k l s3431) k s3865

theorem member.merge_member_Diff_1.loop4.c_le (k : Nat) (l : List (List (List UInt8))) (s3431 : (List UInt8) × Bool) (s3865 : member.merge_member_Diff_1.S4) : OLe (member.merge_member_Diff_1.loop4.c k l s3431 s3865) (member.merge_member_Diff_1.loop4 l s3431 s3865) := by
 unfold member.merge_member_Diff_1.loop4.c member.merge_member_Diff_1.loop4
 exact OLe.iter (fun s => member.merge_member_Diff_1.body4.c_le k l s3431 s) k _

def member.merge_member_Diff_1.body0.c (k : Nat) (l : List (List (List UInt8))) (s3272 : member.merge_member_Diff_1.S0) : Option (member.merge_member_Diff_1.S0 ⊕ (List (List UInt8))) :=
 (member.merge_member_Diff_1.loop2.c k l s3272 ⟨([] : List UInt8), false, 0⟩).bind fun s3431 =>
 if (!s3431.2) = true then
  some (.inr s3272.out)
 else
  (member.merge_member_Diff_1.loop4.c k l s3431 ⟨0, false, 0, s3272.v⟩).bind fun s3754 =>
  (member.Diff_1.c k s3754.1 s3754.2.1).bind fun r3923 =>
  if r3923 = true then
   need ((s3272.out.length + [s3431.1].length) * 16 ≤ 140737488355328) <|
   some (.inl ⟨s3272.out ++ [s3431.1], s3754.2.2⟩)
  else
   some (.inl ⟨s3272.out, s3754.2.2⟩)

theorem member.merge_member_Diff_1.body0.c_le (k : Nat) (l : List (List (List UInt8))) (s3272 : member.merge_member_Diff_1.S0) : OLe (member.merge_member_Diff_1.body0.c k l s3272) (member.merge_member_Diff_1.body0 l s3272) := by
 unfold member.merge_member_Diff_1.body0.c member.merge_member_Diff_1.body0
 repeat' with_reducible first | exact OLe.refl _ | apply member.merge_member_Diff_1.loop2.c_le | apply member.merge_member_Diff_1.loop4.c_le | apply member.Diff_1.c_le | apply OLe.bind | apply OLe.need | apply OLe.letO | apply OLe.onSum | apply OLe.ite | intro _

def member.merge_member_Diff_1.loop0.c (k : Nat) (l : List (List (List UInt8))) (s3272 : member.merge_member_Diff_1.S0) : Option (List (List UInt8)) := iterO (member.merge_member_Diff_1.body0.c k l) k s3272

theorem member.merge_member_Diff_1.loop0.c_le (k : Nat) (l : List (List (List UInt8))) (s3272 : member.merge_member_Diff_1.S0) : OLe (member.merge_member_Diff_1.loop0.c k l s3272) (member.merge_member_Diff_1.loop0 l s3272) := by
 unfold member.merge_member_Diff_1.loop0.c member.merge_member_Diff_1.loop0
 exact OLe.iter (fun s => member.merge_member_Diff_1.body0.c_le k l s) k _

def member.merge_member_Diff_1.c (k : Nat) (l : List (List (List UInt8))) : Option (List (List UInt8)) :=
 need (Room (l.length : Int) 8) <|
 member.merge_member_Diff_1.loop0.c k l ⟨([] : List (List UInt8)), List.replicate (Int.toNat (l.length : Int)) (0 : Int)⟩

theorem member.merge_member_Diff_1.c_le (k : Nat) (l : List (List (List UInt8))) : OLe (member.merge_member_Diff_1.c k l) (member.merge_member_Diff_1 l) := by
 unfold member.merge_member_Diff_1.c member.merge_member_Diff_1
 repeat' with_reducible first | exact OLe.refl _ | apply member.merge_member_Diff_1.loop0.c_le | apply OLe.bind | apply OLe.need | apply OLe.letO | apply OLe.onSum | apply OLe.ite | intro _

def member.Diff.c (k : Nat) (l : List (List (List UInt8))) : Option (List (List UInt8)) :=
 (member.merge_member_Diff_1.c k l).bind fun r3 =>
 some r3

theorem member.Diff.c_le (k : Nat) (l : List (List (List UInt8))) : OLe (member.Diff.c k l) (member.Diff l) := by
 unfold member.Diff.c member.Diff
 repeat' with_reducible first | exact OLe.refl _ | apply member.merge_member_Diff_1.c_le | apply OLe.bind | apply OLe.need | apply OLe.letO | apply OLe.onSum | apply OLe.ite | intro _

def mewslaw23.alive.c (k : Nat)  : Option Bool :=
 (
  (member.Union.c k [[[97], [98]], [[98], [99]]]).bind fun r40 =>
  (mewsref02.Same.c k r40 [[97], [98], [99]]).bind fun r42 =>
  if r42 = true then
   (member.Inter.c k [[[97], [98]], [[98], [99]]]).bind fun r44 =>
   (mewsref02.Same.c k r44 [[98]]).bind fun r46 =>
   if r46 = true then
    (member.Diff.c k [[[97], [98]], [[98], [99]]]).bind fun r48 =>
    (mewsref02.Same.c k r48 [[97]]).bind fun r50 =>
    some r50
   else
    some false
  else
   some false).bind fun s37 =>
 some s37

theorem mewslaw23.alive.c_le (k : Nat)  : OLe (mewslaw23.alive.c k ) (mewslaw23.alive ) := by
 unfold mewslaw23.alive.c mewslaw23.alive
 repeat' with_reducible first | exact OLe.refl _ | apply member.Union.c_le | apply mewsref02.Same.c_le | apply member.Inter.c_le | apply member.Diff.c_le | apply OLe.bind | apply OLe.need | apply OLe.letO | apply OLe.onSum | apply OLe.ite | intro _

end Go.Pu
