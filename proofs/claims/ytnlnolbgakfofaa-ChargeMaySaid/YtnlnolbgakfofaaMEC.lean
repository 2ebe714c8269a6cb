/- Printed by lift.py: the same functions, with rounds that are counted. -/
import Derived.Test.YtnlnolbgakfofaaMEP
set_option maxRecDepth 100000
set_option maxHeartbeats 0
namespace Go.Pu
open Go.Lift

def charge.Text.c (k : Nat) (s_ : List UInt8) : Option api.Value :=
 some ({ Kind := 1, Text := s_, List_ := ([] : List (List UInt8)), Hash := ([] : List api.Field), ZSet := ([] : List api.Scored) } : api.Value)

theorem charge.Text.c_le (k : Nat) (s_ : List UInt8) : OLe (charge.Text.c k s_) (charge.Text s_) := by
 unfold charge.Text.c charge.Text
 repeat' with_reducible first | exact OLe.refl _ | apply OLe.bind | apply OLe.need | apply OLe.letO | apply OLe.onSum | apply OLe.ite | intro _

def charge.Of.body1.c (k : Nat) (e : api.Entry) (s202 : charge.Of.S1) : Option (charge.Of.S1 ⊕ Int) :=
 if s202.t38 < (e.Val.List_.length : Int) then
  need (InB s202.t38 e.Val.List_.length) <|
  some (.inl ⟨IntKind.wrap .i64 (s202.n + (IntKind.wrap .i64 (16 + ((ix e.Val.List_ s202.t38).length : Int)))), IntKind.wrap .i64 (s202.t38 + 1)⟩)
 else
  some (.inr s202.n)

theorem charge.Of.body1.c_le (k : Nat) (e : api.Entry) (s202 : charge.Of.S1) : OLe (charge.Of.body1.c k e s202) (charge.Of.body1 e s202) := by
 unfold charge.Of.body1.c charge.Of.body1
 repeat' with_reducible first | exact OLe.refl _ | apply OLe.bind | apply OLe.need | apply OLe.letO | apply OLe.onSum | apply OLe.ite | intro _

def charge.Of.loop1.c (k : Nat) (e : api.Entry) (s202 : charge.Of.S1) : Option Int := iterO (charge.Of.body1.c k e) k s202

theorem charge.Of.loop1.c_le (k : Nat) (e : api.Entry) (s202 : charge.Of.S1) : OLe (charge.Of.loop1.c k e s202) (charge.Of.loop1 e s202) := by
 unfold charge.Of.loop1.c charge.Of.loop1
 exact OLe.iter (fun s => charge.Of.body1.c_le k e s) k _

def charge.Of.body3.c (k : Nat) (e : api.Entry) (s214 : charge.Of.S3) : Option (charge.Of.S3 ⊕ Int) :=
 if s214.t54 < (e.Val.List_.length : Int) then
  need (InB s214.t54 e.Val.List_.length) <|
  some (.inl ⟨IntKind.wrap .i64 (s214.n + (IntKind.wrap .i64 (24 + ((ix e.Val.List_ s214.t54).length : Int)))), IntKind.wrap .i64 (s214.t54 + 1)⟩)
 else
  some (.inr s214.n)

theorem charge.Of.body3.c_le (k : Nat) (e : api.Entry) (s214 : charge.Of.S3) : OLe (charge.Of.body3.c k e s214) (charge.Of.body3 e s214) := by
 unfold charge.Of.body3.c charge.Of.body3
 repeat' with_reducible first | exact OLe.refl _ | apply OLe.bind | apply OLe.need | apply OLe.letO | apply OLe.onSum | apply OLe.ite | intro _

def charge.Of.loop3.c (k : Nat) (e : api.Entry) (s214 : charge.Of.S3) : Option Int := iterO (charge.Of.body3.c k e) k s214

theorem charge.Of.loop3.c_le (k : Nat) (e : api.Entry) (s214 : charge.Of.S3) : OLe (charge.Of.loop3.c k e s214) (charge.Of.loop3 e s214) := by
 unfold charge.Of.loop3.c charge.Of.loop3
 exact OLe.iter (fun s => charge.Of.body3.c_le k e s) k _

def charge.Of.body5.c (k : Nat) (e : api.Entry) (s228 : charge.Of.S5) : Option (charge.Of.S5 ⊕ Int) :=
 if s228.t70 < (e.Val.Hash.length : Int) then
  need (InB s228.t70 e.Val.Hash.length) <|
  some (.inl ⟨IntKind.wrap .i64 (s228.n + (IntKind.wrap .i64 ((IntKind.wrap .i64 (32 + ((ix e.Val.Hash s228.t70).Key.length : Int))) + ((ix e.Val.Hash s228.t70).Val.length : Int)))), IntKind.wrap .i64 (s228.t70 + 1)⟩)
 else
  some (.inr s228.n)

theorem charge.Of.body5.c_le (k : Nat) (e : api.Entry) (s228 : charge.Of.S5) : OLe (charge.Of.body5.c k e s228) (charge.Of.body5 e s228) := by
 unfold charge.Of.body5.c charge.Of.body5
 repeat' with_reducible first | exact OLe.refl _ | apply OLe.bind | apply OLe.need | apply OLe.letO | apply OLe.onSum | apply OLe.ite | intro _

def charge.Of.loop5.c (k : Nat) (e : api.Entry) (s228 : charge.Of.S5) : Option Int := iterO (charge.Of.body5.c k e) k s228

theorem charge.Of.loop5.c_le (k : Nat) (e : api.Entry) (s228 : charge.Of.S5) : OLe (charge.Of.loop5.c k e s228) (charge.Of.loop5 e s228) := by
 unfold charge.Of.loop5.c charge.Of.loop5
 exact OLe.iter (fun s => charge.Of.body5.c_le k e s) k _

def charge.Of.body7.c (k : Nat) (e : api.Entry) (s243 : charge.Of.S7) : Option (charge.Of.S7 ⊕ Int) :=
 if s243.t91 < (e.Val.ZSet.length : Int) then
  need (InB s243.t91 e.Val.ZSet.length) <|
  some (.inl ⟨IntKind.wrap .i64 (s243.n + (IntKind.wrap .i64 (40 + ((ix e.Val.ZSet s243.t91).Member.length : Int)))), IntKind.wrap .i64 (s243.t91 + 1)⟩)
 else
  some (.inr s243.n)

theorem charge.Of.body7.c_le (k : Nat) (e : api.Entry) (s243 : charge.Of.S7) : OLe (charge.Of.body7.c k e s243) (charge.Of.body7 e s243) := by
 unfold charge.Of.body7.c charge.Of.body7
 repeat' with_reducible first | exact OLe.refl _ | apply OLe.bind | apply OLe.need | apply OLe.letO | apply OLe.onSum | apply OLe.ite | intro _

def charge.Of.loop7.c (k : Nat) (e : api.Entry) (s243 : charge.Of.S7) : Option Int := iterO (charge.Of.body7.c k e) k s243

theorem charge.Of.loop7.c_le (k : Nat) (e : api.Entry) (s243 : charge.Of.S7) : OLe (charge.Of.loop7.c k e s243) (charge.Of.loop7 e s243) := by
 unfold charge.Of.loop7.c charge.Of.loop7
 exact OLe.iter (fun s => charge.Of.body7.c_le k e s) k _

def charge.Of.c (k : Nat) (e : api.Entry) : Option Int :=
 letO (
  if e.At = 0 then
   IntKind.wrap .i64 (56 + (e.Key.length : Int))
  else
   IntKind.wrap .i64 ((IntKind.wrap .i64 (56 + (e.Key.length : Int))) + 16)) fun s130 =>
 (
  if e.Val.Kind = 1 then
   some (IntKind.wrap .i64 (s130 + (e.Val.Text.length : Int)))
  else
   if e.Val.Kind = 2 then
    charge.Of.loop1.c k e ⟨s130, 0⟩
   else
    if e.Val.Kind = 4 then
     charge.Of.loop3.c k e ⟨s130, 0⟩
    else
     if e.Val.Kind = 3 then
      charge.Of.loop5.c k e ⟨s130, 0⟩
     else
      if e.Val.Kind = 5 then
       charge.Of.loop7.c k e ⟨s130, 0⟩
      else
       some s130).bind fun s193 =>
 some s193

theorem charge.Of.c_le (k : Nat) (e : api.Entry) : OLe (charge.Of.c k e) (charge.Of e) := by
 unfold charge.Of.c charge.Of
 repeat' with_reducible first | exact OLe.refl _ | apply charge.Of.loop1.c_le | apply charge.Of.loop3.c_le | apply charge.Of.loop5.c_le | apply charge.Of.loop7.c_le | apply OLe.bind | apply OLe.need | apply OLe.letO | apply OLe.onSum | apply OLe.ite | intro _

def charge.All.body0.c (k : Nat) (l : List api.Entry) (s71 : charge.All.S0) : Option (charge.All.S0 ⊕ Int) :=
 if s71.t8 < (l.length : Int) then
  need (InB s71.t8 l.length) <|
  (charge.Of.c k (ix l s71.t8)).bind fun r77 =>
  some (.inl ⟨IntKind.wrap .i64 (s71.n + r77), IntKind.wrap .i64 (s71.t8 + 1)⟩)
 else
  some (.inr s71.n)

theorem charge.All.body0.c_le (k : Nat) (l : List api.Entry) (s71 : charge.All.S0) : OLe (charge.All.body0.c k l s71) (charge.All.body0 l s71) := by
 unfold charge.All.body0.c charge.All.body0
 repeat' with_reducible first | exact OLe.refl _ | apply charge.Of.c_le | apply OLe.bind | apply OLe.need | apply OLe.letO | apply OLe.onSum | apply OLe.ite | intro _

def charge.All.loop0.c (k : Nat) (l : List api.Entry) (s71 : charge.All.S0) : Option Int := iterO (charge.All.body0.c k l) k s71

theorem charge.All.loop0.c_le (k : Nat) (l : List api.Entry) (s71 : charge.All.S0) : OLe (charge.All.loop0.c k l s71) (charge.All.loop0 l s71) := by
 unfold charge.All.loop0.c charge.All.loop0
 exact OLe.iter (fun s => charge.All.body0.c_le k l s) k _

def charge.All.c (k : Nat) (l : List api.Entry) : Option Int :=
 (charge.All.loop0.c k l ⟨0, 0⟩).bind fun s58 =>
 some s58

theorem charge.All.c_le (k : Nat) (l : List api.Entry) : OLe (charge.All.c k l) (charge.All l) := by
 unfold charge.All.c charge.All
 repeat' with_reducible first | exact OLe.refl _ | apply charge.All.loop0.c_le | apply OLe.bind | apply OLe.need | apply OLe.letO | apply OLe.onSum | apply OLe.ite | intro _

def slices.Clone_string.c (k : Nat) (s : List (List UInt8)) : Option (List (List UInt8)) :=
 need ((([] : List (List UInt8)).length + s.length) * 16 ≤ 140737488355328) <|
 some s

theorem slices.Clone_string.c_le (k : Nat) (s : List (List UInt8)) : OLe (slices.Clone_string.c k s) (slices.Clone_string s) := by
 unfold slices.Clone_string.c slices.Clone_string
 repeat' with_reducible first | exact OLe.refl _ | apply OLe.bind | apply OLe.need | apply OLe.letO | apply OLe.onSum | apply OLe.ite | intro _

def slices.Sort_string.c (k : Nat) (x : List (List UInt8)) : Option (List (List UInt8)) :=
 need (x.length < 4611686018427387904) <|
 some (x.mergeSort fun a b => decide (a ≤ b))

theorem slices.Sort_string.c_le (k : Nat) (x : List (List UInt8)) : OLe (slices.Sort_string.c k x) (slices.Sort_string x) := by
 unfold slices.Sort_string.c slices.Sort_string
 repeat' with_reducible first | exact OLe.refl _ | apply OLe.bind | apply OLe.need | apply OLe.letO | apply OLe.onSum | apply OLe.ite | intro _

def slices.Compact_string.c (k : Nat) (x : List (List UInt8)) : Option (List (List UInt8)) :=
 need (x.length < 4611686018427387904) <|
 some (Go.Lib.compact x)

theorem slices.Compact_string.c_le (k : Nat) (x : List (List UInt8)) : OLe (slices.Compact_string.c k x) (slices.Compact_string x) := by
 unfold slices.Compact_string.c slices.Compact_string
 repeat' with_reducible first | exact OLe.refl _ | apply OLe.bind | apply OLe.need | apply OLe.letO | apply OLe.onSum | apply OLe.ite | intro _

def slices.Clip_string.c (k : Nat) (s_ : List (List UInt8)) : Option (List (List UInt8)) :=
 need (InR 0 (s_.length : Int) s_.length) <|
 some (sub s_ 0 (s_.length : Int))

theorem slices.Clip_string.c_le (k : Nat) (s_ : List (List UInt8)) : OLe (slices.Clip_string.c k s_) (slices.Clip_string s_) := by
 unfold slices.Clip_string.c slices.Clip_string
 repeat' with_reducible first | exact OLe.refl _ | apply OLe.bind | apply OLe.need | apply OLe.letO | apply OLe.onSum | apply OLe.ite | intro _

def charge.Set.c (k : Nat) (l : List (List UInt8)) : Option api.Value :=
 if (l.length : Int) = 0 then
  some ({ Kind := 0, Text := ([] : List UInt8), List_ := ([] : List (List UInt8)), Hash := ([] : List api.Field), ZSet := ([] : List api.Scored) } : api.Value)
 else
  (slices.Clone_string.c k l).bind fun r10 =>
  (slices.Sort_string.c k r10).bind fun r12 =>
  (slices.Compact_string.c k r12).bind fun r13 =>
  (slices.Clip_string.c k r13).bind fun r15 =>
  some ({ Kind := 4, Text := ([] : List UInt8), List_ := r15, Hash := ([] : List api.Field), ZSet := ([] : List api.Scored) } : api.Value)

theorem charge.Set.c_le (k : Nat) (l : List (List UInt8)) : OLe (charge.Set.c k l) (charge.Set l) := by
 unfold charge.Set.c charge.Set
 repeat' with_reducible first | exact OLe.refl _ | apply slices.Clone_string.c_le | apply slices.Sort_string.c_le | apply slices.Compact_string.c_le | apply slices.Clip_string.c_le | apply OLe.bind | apply OLe.need | apply OLe.letO | apply OLe.onSum | apply OLe.ite | intro _

def charge.May_1.c (k : Nat) (i : Int) (k_ : Int) (a2_ : api.Value) : Option Bool :=
 need (InB i a2_.List_.length) <|
 need (InB k_ a2_.List_.length) <|
 some (strLt (ix a2_.List_ i) (ix a2_.List_ k_))

theorem charge.May_1.c_le (k : Nat) (i : Int) (k_ : Int) (a2_ : api.Value) : OLe (charge.May_1.c k i k_ a2_) (charge.May_1 i k_ a2_) := by
 unfold charge.May_1.c charge.May_1
 repeat' with_reducible first | exact OLe.refl _ | apply OLe.bind | apply OLe.need | apply OLe.letO | apply OLe.onSum | apply OLe.ite | intro _

def charge.rises_charge_May_1.body0.c (k : Nat) (n_ : Int) (b0_ : api.Value) (s61 : charge.rises_charge_May_1.S0) : Option (charge.rises_charge_May_1.S0 ⊕ (Unit ⊕ Bool)) :=
 if s61.i < n_ then
  (charge.May_1.c k (IntKind.wrap .i64 (s61.i - 1)) s61.i b0_).bind fun r65 =>
  if (!r65) = true then
   some (.inr (.inr false))
  else
   some (.inl ⟨IntKind.wrap .i64 (s61.i + 1)⟩)
 else
  some (.inr (.inl ()))

theorem charge.rises_charge_May_1.body0.c_le (k : Nat) (n_ : Int) (b0_ : api.Value) (s61 : charge.rises_charge_May_1.S0) : OLe (charge.rises_charge_May_1.body0.c k n_ b0_ s61) (charge.rises_charge_May_1.body0 n_ b0_ s61) := by
 unfold charge.rises_charge_May_1.body0.c charge.rises_charge_May_1.body0
 repeat' with_reducible first | exact OLe.refl _ | apply charge.May_1.c_le | apply OLe.bind | apply OLe.need | apply OLe.letO | apply OLe.onSum | apply OLe.ite | intro _

def charge.rises_charge_May_1.loop0.c (k : Nat) (n_ : Int) (b0_ : api.Value) (s61 : charge.rises_charge_May_1.S0) : Option (Unit ⊕ Bool) := iterO (charge.rises_charge_May_1.body0.c k n_ b0_) k s61

theorem charge.rises_charge_May_1.loop0.c_le (k : Nat) (n_ : Int) (b0_ : api.Value) (s61 : charge.rises_charge_May_1.S0) : OLe (charge.rises_charge_May_1.loop0.c k n_ b0_ s61) (charge.rises_charge_May_1.loop0 n_ b0_ s61) := by
 unfold charge.rises_charge_May_1.loop0.c charge.rises_charge_May_1.loop0
 exact OLe.iter (fun s => charge.rises_charge_May_1.body0.c_le k n_ b0_ s) k _

def charge.rises_charge_May_1.c (k : Nat) (n_ : Int) (b0_ : api.Value) : Option Bool :=
 (charge.rises_charge_May_1.loop0.c k n_ b0_ ⟨1⟩).bind fun s68 => onSum s68 (fun s50 =>
  some true) fun s68x => some s68x

theorem charge.rises_charge_May_1.c_le (k : Nat) (n_ : Int) (b0_ : api.Value) : OLe (charge.rises_charge_May_1.c k n_ b0_) (charge.rises_charge_May_1 n_ b0_) := by
 unfold charge.rises_charge_May_1.c charge.rises_charge_May_1
 repeat' with_reducible first | exact OLe.refl _ | apply charge.rises_charge_May_1.loop0.c_le | apply OLe.bind | apply OLe.need | apply OLe.letO | apply OLe.onSum | apply OLe.ite | intro _

def charge.May_2.c (k : Nat) (i : Int) (k_ : Int) (a2_ : api.Value) : Option Bool :=
 need (InB i a2_.Hash.length) <|
 need (InB k_ a2_.Hash.length) <|
 some (strLt (ix a2_.Hash i).Key (ix a2_.Hash k_).Key)

theorem charge.May_2.c_le (k : Nat) (i : Int) (k_ : Int) (a2_ : api.Value) : OLe (charge.May_2.c k i k_ a2_) (charge.May_2 i k_ a2_) := by
 unfold charge.May_2.c charge.May_2
 repeat' with_reducible first | exact OLe.refl _ | apply OLe.bind | apply OLe.need | apply OLe.letO | apply OLe.onSum | apply OLe.ite | intro _

def charge.rises_charge_May_2.body0.c (k : Nat) (n_ : Int) (b0_ : api.Value) (s61 : charge.rises_charge_May_2.S0) : Option (charge.rises_charge_May_2.S0 ⊕ (Unit ⊕ Bool)) :=
 if s61.i < n_ then
  (charge.May_2.c k (IntKind.wrap .i64 (s61.i - 1)) s61.i b0_).bind fun r65 =>
  if (!r65) = true then
   some (.inr (.inr false))
  else
   some (.inl ⟨IntKind.wrap .i64 (s61.i + 1)⟩)
 else
  some (.inr (.inl ()))

theorem charge.rises_charge_May_2.body0.c_le (k : Nat) (n_ : Int) (b0_ : api.Value) (s61 : charge.rises_charge_May_2.S0) : OLe (charge.rises_charge_May_2.body0.c k n_ b0_ s61) (charge.rises_charge_May_2.body0 n_ b0_ s61) := by
 unfold charge.rises_charge_May_2.body0.c charge.rises_charge_May_2.body0
 repeat' with_reducible first | exact OLe.refl _ | apply charge.May_2.c_le | apply OLe.bind | apply OLe.need | apply OLe.letO | apply OLe.onSum | apply OLe.ite | intro _

def charge.rises_charge_May_2.loop0.c (k : Nat) (n_ : Int) (b0_ : api.Value) (s61 : charge.rises_charge_May_2.S0) : Option (Unit ⊕ Bool) := iterO (charge.rises_charge_May_2.body0.c k n_ b0_) k s61

theorem charge.rises_charge_May_2.loop0.c_le (k : Nat) (n_ : Int) (b0_ : api.Value) (s61 : charge.rises_charge_May_2.S0) : OLe (charge.rises_charge_May_2.loop0.c k n_ b0_ s61) (charge.rises_charge_May_2.loop0 n_ b0_ s61) := by
 unfold charge.rises_charge_May_2.loop0.c charge.rises_charge_May_2.loop0
 exact OLe.iter (fun s => charge.rises_charge_May_2.body0.c_le k n_ b0_ s) k _

def charge.rises_charge_May_2.c (k : Nat) (n_ : Int) (b0_ : api.Value) : Option Bool :=
 (charge.rises_charge_May_2.loop0.c k n_ b0_ ⟨1⟩).bind fun s68 => onSum s68 (fun s50 =>
  some true) fun s68x => some s68x

theorem charge.rises_charge_May_2.c_le (k : Nat) (n_ : Int) (b0_ : api.Value) : OLe (charge.rises_charge_May_2.c k n_ b0_) (charge.rises_charge_May_2 n_ b0_) := by
 unfold charge.rises_charge_May_2.c charge.rises_charge_May_2
 repeat' with_reducible first | exact OLe.refl _ | apply charge.rises_charge_May_2.loop0.c_le | apply OLe.bind | apply OLe.need | apply OLe.letO | apply OLe.onSum | apply OLe.ite | intro _

def charge.less.c (k : Nat) (a : api.Scored) (b : api.Scored) : Option Bool :=
 letO (
  if a.Score < b.Score then
   true
  else
   if a.Score = b.Score then
    strLt a.Member b.Member
   else
    false) fun s14 =>
 some s14

theorem charge.less.c_le (k : Nat) (a : api.Scored) (b : api.Scored) : OLe (charge.less.c k a b) (charge.less a b) := by
 unfold charge.less.c charge.less
 repeat' with_reducible first | exact OLe.refl _ | apply OLe.bind | apply OLe.need | apply OLe.letO | apply OLe.onSum | apply OLe.ite | intro _

def charge.May_3.c (k : Nat) (i : Int) (k_ : Int) (a2_ : api.Value) : Option Bool :=
 need (InB i a2_.ZSet.length) <|
 need (InB k_ a2_.ZSet.length) <|
 (charge.less.c k (ix a2_.ZSet i) (ix a2_.ZSet k_)).bind fun r6 =>
 some r6

theorem charge.May_3.c_le (k : Nat) (i : Int) (k_ : Int) (a2_ : api.Value) : OLe (charge.May_3.c k i k_ a2_) (charge.May_3 i k_ a2_) := by
 unfold charge.May_3.c charge.May_3
 repeat' with_reducible first | exact OLe.refl _ | apply charge.less.c_le | apply OLe.bind | apply OLe.need | apply OLe.letO | apply OLe.onSum | apply OLe.ite | intro _

def charge.rises_charge_May_3.body0.c (k : Nat) (n_ : Int) (b0_ : api.Value) (s61 : charge.rises_charge_May_3.S0) : Option (charge.rises_charge_May_3.S0 ⊕ (Unit ⊕ Bool)) :=
 if s61.i < n_ then
  (charge.May_3.c k (IntKind.wrap .i64 (s61.i - 1)) s61.i b0_).bind fun r65 =>
  if (!r65) = true then
   some (.inr (.inr false))
  else
   some (.inl ⟨IntKind.wrap .i64 (s61.i + 1)⟩)
 else
  some (.inr (.inl ()))

theorem charge.rises_charge_May_3.body0.c_le (k : Nat) (n_ : Int) (b0_ : api.Value) (s61 : charge.rises_charge_May_3.S0) : OLe (charge.rises_charge_May_3.body0.c k n_ b0_ s61) (charge.rises_charge_May_3.body0 n_ b0_ s61) := by
 unfold charge.rises_charge_May_3.body0.c charge.rises_charge_May_3.body0
 repeat' with_reducible first | exact OLe.refl _ | apply charge.May_3.c_le | apply OLe.bind | apply OLe.need | apply OLe.letO | apply OLe.onSum | apply OLe.ite | intro _

def charge.rises_charge_May_3.loop0.c (k : Nat) (n_ : Int) (b0_ : api.Value) (s61 : charge.rises_charge_May_3.S0) : Option (Unit ⊕ Bool) := iterO (charge.rises_charge_May_3.body0.c k n_ b0_) k s61

theorem charge.rises_charge_May_3.loop0.c_le (k : Nat) (n_ : Int) (b0_ : api.Value) (s61 : charge.rises_charge_May_3.S0) : OLe (charge.rises_charge_May_3.loop0.c k n_ b0_ s61) (charge.rises_charge_May_3.loop0 n_ b0_ s61) := by
 unfold charge.rises_charge_May_3.loop0.c charge.rises_charge_May_3.loop0
 exact OLe.iter (fun s => charge.rises_charge_May_3.body0.c_le k n_ b0_ s) k _

def charge.rises_charge_May_3.c (k : Nat) (n_ : Int) (b0_ : api.Value) : Option Bool :=
 (charge.rises_charge_May_3.loop0.c k n_ b0_ ⟨1⟩).bind fun s68 => onSum s68 (fun s50 =>
  some true) fun s68x => some s68x

theorem charge.rises_charge_May_3.c_le (k : Nat) (n_ : Int) (b0_ : api.Value) : OLe (charge.rises_charge_May_3.c k n_ b0_) (charge.rises_charge_May_3 n_ b0_) := by
 unfold charge.rises_charge_May_3.c charge.rises_charge_May_3
 repeat' with_reducible first | exact OLe.refl _ | apply charge.rises_charge_May_3.loop0.c_le | apply OLe.bind | apply OLe.need | apply OLe.letO | apply OLe.onSum | apply OLe.ite | intro _

def charge.once.body0.c (k : Nat) (l : List api.Scored) (s97 : charge.once.S0) : Option (charge.once.S0 ⊕ (List (List UInt8))) :=
 if s97.t8 < (l.length : Int) then
  need (InB s97.t8 l.length) <|
  need ((s97.v.length + [(ix l s97.t8).Member].length) * 16 ≤ 140737488355328) <|
  some (.inl ⟨IntKind.wrap .i64 (s97.t8 + 1), s97.v ++ [(ix l s97.t8).Member]⟩)
 else
  some (.inr s97.v)

theorem charge.once.body0.c_le (k : Nat) (l : List api.Scored) (s97 : charge.once.S0) : OLe (charge.once.body0.c k l s97) (charge.once.body0 l s97) := by
 unfold charge.once.body0.c charge.once.body0
 repeat' with_reducible first | exact OLe.refl _ | apply OLe.bind | apply OLe.need | apply OLe.letO | apply OLe.onSum | apply OLe.ite | intro _

def charge.once.loop0.c (k : Nat) (l : List api.Scored) (s97 : charge.once.S0) : Option (List (List UInt8)) := iterO (charge.once.body0.c k l) k s97

theorem charge.once.loop0.c_le (k : Nat) (l : List api.Scored) (s97 : charge.once.S0) : OLe (charge.once.loop0.c k l s97) (charge.once.loop0 l s97) := by
 unfold charge.once.loop0.c charge.once.loop0
 exact OLe.iter (fun s => charge.once.body0.c_le k l s) k _

def charge.once.c (k : Nat) (l : List api.Scored) : Option Bool :=
 (charge.once.loop0.c k l ⟨0, ([] : List (List UInt8))⟩).bind fun s80 =>
 (slices.Sort_string.c k s80).bind fun r108 =>
 (slices.Compact_string.c k r108).bind fun r109 =>
 some (decide ((r109.length : Int) = (l.length : Int)))

theorem charge.once.c_le (k : Nat) (l : List api.Scored) : OLe (charge.once.c k l) (charge.once l) := by
 unfold charge.once.c charge.once
 repeat' with_reducible first | exact OLe.refl _ | apply charge.once.loop0.c_le | apply slices.Sort_string.c_le | apply slices.Compact_string.c_le | apply OLe.bind | apply OLe.need | apply OLe.letO | apply OLe.onSum | apply OLe.ite | intro _

def slices.Equal_string.body0.c (k : Nat) (s1_ : List (List UInt8)) (s2_ : List (List UInt8)) (s73 : slices.Equal_string.S0) : Option (slices.Equal_string.S0 ⊕ (Unit ⊕ Bool)) :=
 if s73.t13 < (s1_.length : Int) then
  need (InB s73.t13 s1_.length) <|
  need (InB s73.t13 s2_.length) <|
  if (ix s1_ s73.t13) = (ix s2_ s73.t13) then
   some (.inl ⟨IntKind.wrap .i64 (s73.t13 + 1)⟩)
  else
   some (.inr (.inr false))
 else
  some (.inr (.inl ()))

theorem slices.Equal_string.body0.c_le (k : Nat) (s1_ : List (List UInt8)) (s2_ : List (List UInt8)) (s73 : slices.Equal_string.S0) : OLe (slices.Equal_string.body0.c k s1_ s2_ s73) (slices.Equal_string.body0 s1_ s2_ s73) := by
 unfold slices.Equal_string.body0.c slices.Equal_string.body0
 repeat' with_reducible first | exact OLe.refl _ | apply OLe.bind | apply OLe.need | apply OLe.letO | apply OLe.onSum | apply OLe.ite | intro _

def slices.Equal_string.loop0.c (k : Nat) (s1_ : List (List UInt8)) (s2_ : List (List UInt8)) (s73 : slices.Equal_string.S0) : Option (Unit ⊕ Bool) := iterO (slices.Equal_string.body0.c k s1_ s2_) k s73

theorem slices.Equal_string.loop0.c_le (k : Nat) (s1_ : List (List UInt8)) (s2_ : List (List UInt8)) (s73 : slices.Equal_string.S0) : OLe (slices.Equal_string.loop0.c k s1_ s2_ s73) (slices.Equal_string.loop0 s1_ s2_ s73) := by
 unfold slices.Equal_string.loop0.c slices.Equal_string.loop0
 exact OLe.iter (fun s => slices.Equal_string.body0.c_le k s1_ s2_ s) k _

def slices.Equal_string.c (k : Nat) (s1_ : List (List UInt8)) (s2_ : List (List UInt8)) : Option Bool :=
 if (s1_.length : Int) = (s2_.length : Int) then
  (slices.Equal_string.loop0.c k s1_ s2_ ⟨0⟩).bind fun s81 => onSum s81 (fun s60 =>
   some true) fun s81x => some s81x
 else
  some false

theorem slices.Equal_string.c_le (k : Nat) (s1_ : List (List UInt8)) (s2_ : List (List UInt8)) : OLe (slices.Equal_string.c k s1_ s2_) (slices.Equal_string s1_ s2_) := by
 unfold slices.Equal_string.c slices.Equal_string
 repeat' with_reducible first | exact OLe.refl _ | apply slices.Equal_string.loop0.c_le | apply OLe.bind | apply OLe.need | apply OLe.letO | apply OLe.onSum | apply OLe.ite | intro _

def slices.Equal_api_Field.body0.c (k : Nat) (s1_ : List api.Field) (s2_ : List api.Field) (s73 : slices.Equal_api_Field.S0) : Option (slices.Equal_api_Field.S0 ⊕ (Unit ⊕ Bool)) :=
 if s73.t13 < (s1_.length : Int) then
  need (InB s73.t13 s1_.length) <|
  need (InB s73.t13 s2_.length) <|
  if (ix s1_ s73.t13) = (ix s2_ s73.t13) then
   some (.inl ⟨IntKind.wrap .i64 (s73.t13 + 1)⟩)
  else
   some (.inr (.inr false))
 else
  some (.inr (.inl ()))

theorem slices.Equal_api_Field.body0.c_le (k : Nat) (s1_ : List api.Field) (s2_ : List api.Field) (s73 : slices.Equal_api_Field.S0) : OLe (slices.Equal_api_Field.body0.c k s1_ s2_ s73) (slices.Equal_api_Field.body0 s1_ s2_ s73) := by
 unfold slices.Equal_api_Field.body0.c slices.Equal_api_Field.body0
 repeat' with_reducible first | exact OLe.refl _ | apply OLe.bind | apply OLe.need | apply OLe.letO | apply OLe.onSum | apply OLe.ite | intro _

def slices.Equal_api_Field.loop0.c (k : Nat) (s1_ : List api.Field) (s2_ : List api.Field) (s73 : slices.Equal_api_Field.S0) : Option (Unit ⊕ Bool) := iterO (slices.Equal_api_Field.body0.c k s1_ s2_) k s73

theorem slices.Equal_api_Field.loop0.c_le (k : Nat) (s1_ : List api.Field) (s2_ : List api.Field) (s73 : slices.Equal_api_Field.S0) : OLe (slices.Equal_api_Field.loop0.c k s1_ s2_ s73) (slices.Equal_api_Field.loop0 s1_ s2_ s73) := by
 unfold slices.Equal_api_Field.loop0.c slices.Equal_api_Field.loop0
 exact OLe.iter (fun s => slices.Equal_api_Field.body0.c_le k s1_ s2_ s) k _

def slices.Equal_api_Field.c (k : Nat) (s1_ : List api.Field) (s2_ : List api.Field) : Option Bool :=
 if (s1_.length : Int) = (s2_.length : Int) then
  (slices.Equal_api_Field.loop0.c k s1_ s2_ ⟨0⟩).bind fun s81 => onSum s81 (fun s60 =>
   some true) fun s81x => some s81x
 else
  some false

theorem slices.Equal_api_Field.c_le (k : Nat) (s1_ : List api.Field) (s2_ : List api.Field) : OLe (slices.Equal_api_Field.c k s1_ s2_) (slices.Equal_api_Field s1_ s2_) := by
 unfold slices.Equal_api_Field.c slices.Equal_api_Field
 repeat' with_reducible first | exact OLe.refl _ | apply slices.Equal_api_Field.loop0.c_le | apply OLe.bind | apply OLe.need | apply OLe.letO | apply OLe.onSum | apply OLe.ite | intro _

def slices.Equal_api_Scored.body0.c (k : Nat) (s1_ : List api.Scored) (s2_ : List api.Scored) (s73 : slices.Equal_api_Scored.S0) : Option (slices.Equal_api_Scored.S0 ⊕ (Unit ⊕ Bool)) :=
 if s73.t13 < (s1_.length : Int) then
  need (InB s73.t13 s1_.length) <|
  need (InB s73.t13 s2_.length) <|
  if (ix s1_ s73.t13) = (ix s2_ s73.t13) then
   some (.inl ⟨IntKind.wrap .i64 (s73.t13 + 1)⟩)
  else
   some (.inr (.inr false))
 else
  some (.inr (.inl ()))

theorem slices.Equal_api_Scored.body0.c_le (k : Nat) (s1_ : List api.Scored) (s2_ : List api.Scored) (s73 : slices.Equal_api_Scored.S0) : OLe (slices.Equal_api_Scored.body0.c k s1_ s2_ s73) (slices.Equal_api_Scored.body0 s1_ s2_ s73) := by
 unfold slices.Equal_api_Scored.body0.c slices.Equal_api_Scored.body0
 repeat' with_reducible first | exact OLe.refl _ | apply OLe.bind | apply OLe.need | apply OLe.letO | apply OLe.onSum | apply OLe.ite | intro _

def slices.Equal_api_Scored.loop0.c (k : Nat) (s1_ : List api.Scored) (s2_ : List api.Scored) (s73 : slices.Equal_api_Scored.S0) : Option (Unit ⊕ Bool) := iterO (slices.Equal_api_Scored.body0.c k s1_ s2_) k s73

theorem slices.Equal_api_Scored.loop0.c_le (k : Nat) (s1_ : List api.Scored) (s2_ : List api.Scored) (s73 : slices.Equal_api_Scored.S0) : OLe (slices.Equal_api_Scored.loop0.c k s1_ s2_ s73) (slices.Equal_api_Scored.loop0 s1_ s2_ s73) := by
 unfold slices.Equal_api_Scored.loop0.c slices.Equal_api_Scored.loop0
 exact OLe.iter (fun s => slices.Equal_api_Scored.body0.c_le k s1_ s2_ s) k _

def slices.Equal_api_Scored.c (k : Nat) (s1_ : List api.Scored) (s2_ : List api.Scored) : Option Bool :=
 if (s1_.length : Int) = (s2_.length : Int) then
  (slices.Equal_api_Scored.loop0.c k s1_ s2_ ⟨0⟩).bind fun s81 => onSum s81 (fun s60 =>
   some true) fun s81x => some s81x
 else
  some false

theorem slices.Equal_api_Scored.c_le (k : Nat) (s1_ : List api.Scored) (s2_ : List api.Scored) : OLe (slices.Equal_api_Scored.c k s1_ s2_) (slices.Equal_api_Scored s1_ s2_) := by
 unfold slices.Equal_api_Scored.c slices.Equal_api_Scored
 repeat' with_reducible first | exact OLe.refl _ | apply slices.Equal_api_Scored.loop0.c_le | apply OLe.bind | apply OLe.need | apply OLe.letO | apply OLe.onSum | apply OLe.ite | intro _

def charge.Same.c (k : Nat) (a : api.Value) (b : api.Value) : Option Bool :=
 (
  if a.Kind = b.Kind then
   if a.Text = b.Text then
    (slices.Equal_string.c k a.List_ b.List_).bind fun r34 =>
    if r34 = true then
     (slices.Equal_api_Field.c k a.Hash b.Hash).bind fun r36 =>
     if r36 = true then
      (slices.Equal_api_Scored.c k a.ZSet b.ZSet).bind fun r38 =>
      some r38
     else
      some false
    else
     some false
   else
    some false
  else
   some false).bind fun s29 =>
 some s29

theorem charge.Same.c_le (k : Nat) (a : api.Value) (b : api.Value) : OLe (charge.Same.c k a b) (charge.Same a b) := by
 unfold charge.Same.c charge.Same
 repeat' with_reducible first | exact OLe.refl _ | apply slices.Equal_string.c_le | apply slices.Equal_api_Field.c_le | apply slices.Equal_api_Scored.c_le | apply OLe.bind | apply OLe.need | apply OLe.letO | apply OLe.onSum | apply OLe.ite | intro _

def charge.May.c (k : Nat) (v_ : api.Value) : Option Bool :=
 (
  if v_.Kind = 1 then
   some (true, ([] : List UInt8), v_.List_, v_.Hash, v_.ZSet)
  else
   if v_.Kind = 2 then
    some (decide (0 < (v_.List_.length : Int)), v_.Text, ([] : List (List UInt8)), v_.Hash, v_.ZSet)
   else
    if v_.Kind = 4 then
     if 0 < (v_.List_.length : Int) then
      (charge.rises_charge_May_1.c k (v_.List_.length : Int) v_).bind fun r58 =>
      some (r58, v_.Text, ([] : List (List UInt8)), v_.Hash, v_.ZSet)
     else
      some (false, v_.Text, ([] : List (List UInt8)), v_.Hash, v_.ZSet)
    else
     if v_.Kind = 3 then
      if 0 < (v_.Hash.length : Int) then
       (charge.rises_charge_May_2.c k (v_.Hash.length : Int) v_).bind fun r60 =>
       some (r60, v_.Text, v_.List_, ([] : List api.Field), v_.ZSet)
      else
       some (false, v_.Text, v_.List_, ([] : List api.Field), v_.ZSet)
     else
      if v_.Kind = 5 then
       if 0 < (v_.ZSet.length : Int) then
        (charge.rises_charge_May_3.c k (v_.ZSet.length : Int) v_).bind fun r62 =>
        if r62 = true then
         (charge.once.c k v_.ZSet).bind fun r64 =>
         some (r64, v_.Text, v_.List_, v_.Hash, ([] : List api.Scored))
        else
         some (false, v_.Text, v_.List_, v_.Hash, ([] : List api.Scored))
       else
        some (false, v_.Text, v_.List_, v_.Hash, ([] : List api.Scored))
      else
       some (false, v_.Text, v_.List_, v_.Hash, v_.ZSet)).bind fun s54 =>
 (
  if s54.1 = true then
   (charge.Same.c k ({ Kind := 0, Text := s54.2.1, List_ := s54.2.2.1, Hash := s54.2.2.2.1, ZSet := s54.2.2.2.2 } : api.Value) ({ Kind := 0, Text := ([] : List UInt8), List_ := ([] : List (List UInt8)), Hash := ([] : List api.Field), ZSet := ([] : List api.Scored) } : api.Value)).bind fun r76 =>
   some r76
  else
   some false).bind fun s72 =>
 some s72

theorem charge.May.c_le (k : Nat) (v_ : api.Value) : OLe (charge.May.c k v_) (charge.May v_) := by
 unfold charge.May.c charge.May
 repeat' with_reducible first | exact OLe.refl _ | apply charge.rises_charge_May_1.c_le | apply charge.rises_charge_May_2.c_le | apply charge.rises_charge_May_3.c_le | apply charge.once.c_le | apply charge.Same.c_le | apply OLe.bind | apply OLe.need | apply OLe.letO | apply OLe.onSum | apply OLe.ite | intro _

def charge.Name.c (k : Nat) (kind : Int) : Option (List UInt8) :=
 letO (
  if kind < 0 then
   true
  else
   decide (6 ≤ kind)) fun s13 =>
 if s13 = true then
  some ([] : List UInt8)
 else
  need (InB kind 6) <|
  need (([[110, 111, 110, 101], [115, 116, 114, 105, 110, 103], [108, 105, 115, 116], [104, 97, 115, 104], [115, 101, 116], [122, 115, 101, 116]] : List (List UInt8)).length = 6) <|
  need (InB kind ([[110, 111, 110, 101], [115, 116, 114, 105, 110, 103], [108, 105, 115, 116], [104, 97, 115, 104], [115, 101, 116], [122, 115, 101, 116]] : List (List UInt8)).length) <|
  some (ix ([[110, 111, 110, 101], [115, 116, 114, 105, 110, 103], [108, 105, 115, 116], [104, 97, 115, 104], [115, 101, 116], [122, 115, 101, 116]] : List (List UInt8)) kind)

theorem charge.Name.c_le (k : Nat) (kind : Int) : OLe (charge.Name.c k kind) (charge.Name kind) := by
 unfold charge.Name.c charge.Name
 repeat' with_reducible first | exact OLe.refl _ | apply OLe.bind | apply OLe.need | apply OLe.letO | apply OLe.onSum | apply OLe.ite | intro _

def mewslaw19.alive.c (k : Nat)  : Option Bool :=
 (charge.Text.c k [98, 99]).bind fun r27 =>
 (
  (charge.Of.c k ({ Key := [97], Val := r27, At := 0 } : api.Entry)).bind fun r43 =>
  if r43 = 59 then
   (charge.Of.c k ({ Key := [97], Val := r27, At := 7 } : api.Entry)).bind fun r45 =>
   if r45 = 75 then
    (charge.All.c k [({ Key := [97], Val := r27, At := 0 } : api.Entry), ({ Key := [97], Val := r27, At := 7 } : api.Entry)]).bind fun r47 =>
    if r47 = 134 then
     (charge.Set.c k [[98], [97], [98]]).bind fun r49 =>
     (charge.May.c k r49).bind fun r50 =>
     if r50 = true then
      (charge.Name.c k 5).bind fun r52 =>
      some (decide (r52 = [122, 115, 101, 116]))
     else
      some false
    else
     some false
   else
    some false
  else
   some false).bind fun s40 =>
 some s40

theorem mewslaw19.alive.c_le (k : Nat)  : OLe (mewslaw19.alive.c k ) (mewslaw19.alive ) := by
 unfold mewslaw19.alive.c mewslaw19.alive
 repeat' with_reducible first | exact OLe.refl _ | apply charge.Text.c_le | apply charge.Of.c_le | apply charge.All.c_le | apply charge.Set.c_le | apply charge.May.c_le | apply charge.Name.c_le | apply OLe.bind | apply OLe.need | apply OLe.letO | apply OLe.onSum | apply OLe.ite | intro _

end Go.Pu
