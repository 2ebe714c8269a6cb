/- Printed by lift.py: the same functions, with rounds that are counted. -/
import Derived.Test.YtngliepchpkiiaaDoorTAP
set_option maxRecDepth 100000
set_option maxHeartbeats 0
namespace Go.Pu
open Go.Lift

def table.Upper.body0.c (k : Nat) (name : List UInt8) (s317 : table.Upper.S0) : Option (table.Upper.S0 ⊕ (List UInt8)) :=
 if s317.t10 < (name.length : Int) then
  (
   need (InB s317.t10 s317.v.length) <|
   need (InB s317.t10 s317.v.length) <|
   letO (
    if 97 ≤ ((ix s317.v s317.t10).toNat : Int) then
     decide (((ix s317.v s317.t10).toNat : Int) ≤ 122)
    else
     false) fun s338 =>
   if s338 = true then
    need (InB s317.t10 s317.v.length) <|
    need (InB s317.t10 s317.v.length) <|
    need (IsU8 (IntKind.wrap .u8 ((IntKind.wrap .u8 (((ix s317.v s317.t10).toNat : Int) - 97)) + 65))) <|
    some (upd s317.v s317.t10 (u8 (IntKind.wrap .u8 ((IntKind.wrap .u8 (((ix s317.v s317.t10).toNat : Int) - 97)) + 65))))
   else
    some s317.v).bind fun s332 =>
  some (.inl ⟨IntKind.wrap .i64 (s317.t10 + 1), s332⟩)
 else
  some (.inr s317.v)

theorem table.Upper.body0.c_le (k : Nat) (name : List UInt8) (s317 : table.Upper.S0) : OLe (table.Upper.body0.c k name s317) (table.Upper.body0 name s317) := by
 unfold table.Upper.body0.c table.Upper.body0
 repeat' with_reducible first | exact OLe.refl _ | apply OLe.bind | apply OLe.need | apply OLe.letO | apply OLe.onSum | apply OLe.ite | intro _

def table.Upper.loop0.c (k : Nat) (name : List UInt8) (s317 : table.Upper.S0) : Option (List UInt8) := iterO (table.Upper.body0.c k name) k s317

theorem table.Upper.loop0.c_le (k : Nat) (name : List UInt8) (s317 : table.Upper.S0) : OLe (table.Upper.loop0.c k name s317) (table.Upper.loop0 name s317) := by
 unfold table.Upper.loop0.c table.Upper.loop0
 exact OLe.iter (fun s => table.Upper.body0.c_le k name s) k _

def table.Upper.c (k : Nat) (name : List UInt8) : Option (List UInt8) :=
 need (name.length ≤ 140737488355328) <|
 (table.Upper.loop0.c k name ⟨0, name⟩).bind fun s260 =>
 some s260

theorem table.Upper.c_le (k : Nat) (name : List UInt8) : OLe (table.Upper.c k name) (table.Upper name) := by
 unfold table.Upper.c table.Upper
 repeat' with_reducible first | exact OLe.refl _ | apply table.Upper.loop0.c_le | apply OLe.bind | apply OLe.need | apply OLe.letO | apply OLe.onSum | apply OLe.ite | intro _

def table.rows1.c (k : Nat)  : Option (List table.row) :=
 some [({ name := [71, 69, 84], arity := 2, is := ([] : List UInt8), keys := [49, 32, 49, 32, 49] } : table.row), ({ name := [83, 69, 84], arity := (-3), is := [119, 103], keys := [49, 32, 49, 32, 49] } : table.row), ({ name := [83, 69, 84, 78, 88], arity := 3, is := [119, 103], keys := [49, 32, 49, 32, 49] } : table.row), ({ name := [83, 69, 84, 69, 88], arity := 4, is := [119, 103], keys := [49, 32, 49, 32, 49] } : table.row), ({ name := [80, 83, 69, 84, 69, 88], arity := 4, is := [119, 103], keys := [49, 32, 49, 32, 49] } : table.row), ({ name := [71, 69, 84, 83, 69, 84], arity := 3, is := [119, 103], keys := [49, 32, 49, 32, 49] } : table.row), ({ name := [71, 69, 84, 68, 69, 76], arity := 2, is := [119], keys := [49, 32, 49, 32, 49] } : table.row), ({ name := [71, 69, 84, 69, 88], arity := (-2), is := [119, 103], keys := [49, 32, 49, 32, 49] } : table.row), ({ name := [77, 71, 69, 84], arity := (-2), is := ([] : List UInt8), keys := [49, 32, 45, 49, 32, 49] } : table.row), ({ name := [77, 83, 69, 84], arity := (-3), is := [119, 103], keys := [49, 32, 45, 49, 32, 50] } : table.row), ({ name := [77, 83, 69, 84, 78, 88], arity := (-3), is := [119, 103], keys := [49, 32, 45, 49, 32, 50] } : table.row), ({ name := [65, 80, 80, 69, 78, 68], arity := 3, is := [119, 103], keys := [49, 32, 49, 32, 49] } : table.row), ({ name := [83, 84, 82, 76, 69, 78], arity := 2, is := ([] : List UInt8), keys := [49, 32, 49, 32, 49] } : table.row), ({ name := [83, 69, 84, 82, 65, 78, 71, 69], arity := 4, is := [119, 103], keys := [49, 32, 49, 32, 49] } : table.row), ({ name := [71, 69, 84, 82, 65, 78, 71, 69], arity := 4, is := ([] : List UInt8), keys := [49, 32, 49, 32, 49] } : table.row), ({ name := [73, 78, 67, 82], arity := 2, is := [119, 103], keys := [49, 32, 49, 32, 49] } : table.row), ({ name := [68, 69, 67, 82], arity := 2, is := [119, 103], keys := [49, 32, 49, 32, 49] } : table.row), ({ name := [73, 78, 67, 82, 66, 89], arity := 3, is := [119, 103], keys := [49, 32, 49, 32, 49] } : table.row), ({ name := [68, 69, 67, 82, 66, 89], arity := 3, is := [119, 103], keys := [49, 32, 49, 32, 49] } : table.row), ({ name := [83, 69, 84, 66, 73, 84], arity := 4, is := [119, 103], keys := [49, 32, 49, 32, 49] } : table.row), ({ name := [71, 69, 84, 66, 73, 84], arity := 3, is := ([] : List UInt8), keys := [49, 32, 49, 32, 49] } : table.row), ({ name := [66, 73, 84, 67, 79, 85, 78, 84], arity := (-2), is := ([] : List UInt8), keys := [49, 32, 49, 32, 49] } : table.row)]

theorem table.rows1.c_le (k : Nat)  : OLe (table.rows1.c k ) (table.rows1 ) := by
 unfold table.rows1.c table.rows1
 repeat' with_reducible first | exact OLe.refl _ | apply OLe.bind | apply OLe.need | apply OLe.letO | apply OLe.onSum | apply OLe.ite | intro _

def table.rows2.c (k : Nat)  : Option (List table.row) :=
 some [({ name := [76, 80, 85, 83, 72], arity := (-3), is := [119, 103], keys := [49, 32, 49, 32, 49] } : table.row), ({ name := [82, 80, 85, 83, 72], arity := (-3), is := [119, 103], keys := [49, 32, 49, 32, 49] } : table.row), ({ name := [76, 80, 85, 83, 72, 88], arity := (-3), is := [119, 103], keys := [49, 32, 49, 32, 49] } : table.row), ({ name := [82, 80, 85, 83, 72, 88], arity := (-3), is := [119, 103], keys := [49, 32, 49, 32, 49] } : table.row), ({ name := [76, 80, 79, 80], arity := (-2), is := [119], keys := [49, 32, 49, 32, 49] } : table.row), ({ name := [82, 80, 79, 80], arity := (-2), is := [119], keys := [49, 32, 49, 32, 49] } : table.row), ({ name := [76, 76, 69, 78], arity := 2, is := ([] : List UInt8), keys := [49, 32, 49, 32, 49] } : table.row), ({ name := [76, 73, 78, 68, 69, 88], arity := 3, is := ([] : List UInt8), keys := [49, 32, 49, 32, 49] } : table.row), ({ name := [76, 83, 69, 84], arity := 4, is := [119, 103], keys := [49, 32, 49, 32, 49] } : table.row), ({ name := [76, 82, 65, 78, 71, 69], arity := 4, is := ([] : List UInt8), keys := [49, 32, 49, 32, 49] } : table.row), ({ name := [76, 84, 82, 73, 77], arity := 4, is := [119], keys := [49, 32, 49, 32, 49] } : table.row), ({ name := [76, 82, 69, 77], arity := 4, is := [119], keys := [49, 32, 49, 32, 49] } : table.row), ({ name := [76, 73, 78, 83, 69, 82, 84], arity := 5, is := [119, 103], keys := [49, 32, 49, 32, 49] } : table.row), ({ name := [76, 80, 79, 83], arity := (-3), is := ([] : List UInt8), keys := [49, 32, 49, 32, 49] } : table.row), ({ name := [76, 77, 79, 86, 69], arity := 5, is := [119, 103], keys := [49, 32, 50, 32, 49] } : table.row), ({ name := [82, 80, 79, 80, 76, 80, 85, 83, 72], arity := 3, is := [119, 103], keys := [49, 32, 50, 32, 49] } : table.row)]

theorem table.rows2.c_le (k : Nat)  : OLe (table.rows2.c k ) (table.rows2 ) := by
 unfold table.rows2.c table.rows2
 repeat' with_reducible first | exact OLe.refl _ | apply OLe.bind | apply OLe.need | apply OLe.letO | apply OLe.onSum | apply OLe.ite | intro _

def table.rows3.c (k : Nat)  : Option (List table.row) :=
 some [({ name := [72, 83, 69, 84], arity := (-4), is := [119, 103], keys := [49, 32, 49, 32, 49] } : table.row), ({ name := [72, 83, 69, 84, 78, 88], arity := 4, is := [119, 103], keys := [49, 32, 49, 32, 49] } : table.row), ({ name := [72, 77, 83, 69, 84], arity := (-4), is := [119, 103], keys := [49, 32, 49, 32, 49] } : table.row), ({ name := [72, 71, 69, 84], arity := 3, is := ([] : List UInt8), keys := [49, 32, 49, 32, 49] } : table.row), ({ name := [72, 77, 71, 69, 84], arity := (-3), is := ([] : List UInt8), keys := [49, 32, 49, 32, 49] } : table.row), ({ name := [72, 68, 69, 76], arity := (-3), is := [119], keys := [49, 32, 49, 32, 49] } : table.row), ({ name := [72, 69, 88, 73, 83, 84, 83], arity := 3, is := ([] : List UInt8), keys := [49, 32, 49, 32, 49] } : table.row), ({ name := [72, 76, 69, 78], arity := 2, is := ([] : List UInt8), keys := [49, 32, 49, 32, 49] } : table.row), ({ name := [72, 83, 84, 82, 76, 69, 78], arity := 3, is := ([] : List UInt8), keys := [49, 32, 49, 32, 49] } : table.row), ({ name := [72, 75, 69, 89, 83], arity := 2, is := ([] : List UInt8), keys := [49, 32, 49, 32, 49] } : table.row), ({ name := [72, 86, 65, 76, 83], arity := 2, is := ([] : List UInt8), keys := [49, 32, 49, 32, 49] } : table.row), ({ name := [72, 71, 69, 84, 65, 76, 76], arity := 2, is := ([] : List UInt8), keys := [49, 32, 49, 32, 49] } : table.row), ({ name := [72, 73, 78, 67, 82, 66, 89], arity := 4, is := [119, 103], keys := [49, 32, 49, 32, 49] } : table.row), ({ name := [72, 83, 67, 65, 78], arity := (-3), is := ([] : List UInt8), keys := [49, 32, 49, 32, 49] } : table.row)]

theorem table.rows3.c_le (k : Nat)  : OLe (table.rows3.c k ) (table.rows3 ) := by
 unfold table.rows3.c table.rows3
 repeat' with_reducible first | exact OLe.refl _ | apply OLe.bind | apply OLe.need | apply OLe.letO | apply OLe.onSum | apply OLe.ite | intro _

def table.rows4.c (k : Nat)  : Option (List table.row) :=
 some [({ name := [83, 65, 68, 68], arity := (-3), is := [119, 103], keys := [49, 32, 49, 32, 49] } : table.row), ({ name := [83, 82, 69, 77], arity := (-3), is := [119], keys := [49, 32, 49, 32, 49] } : table.row), ({ name := [83, 73, 83, 77, 69, 77, 66, 69, 82], arity := 3, is := ([] : List UInt8), keys := [49, 32, 49, 32, 49] } : table.row), ({ name := [83, 77, 73, 83, 77, 69, 77, 66, 69, 82], arity := (-3), is := ([] : List UInt8), keys := [49, 32, 49, 32, 49] } : table.row), ({ name := [83, 67, 65, 82, 68], arity := 2, is := ([] : List UInt8), keys := [49, 32, 49, 32, 49] } : table.row), ({ name := [83, 77, 69, 77, 66, 69, 82, 83], arity := 2, is := ([] : List UInt8), keys := [49, 32, 49, 32, 49] } : table.row), ({ name := [83, 80, 79, 80], arity := (-2), is := [119], keys := [49, 32, 49, 32, 49] } : table.row), ({ name := [83, 77, 79, 86, 69], arity := 4, is := [119, 103], keys := [49, 32, 50, 32, 49] } : table.row), ({ name := [83, 85, 78, 73, 79, 78], arity := (-2), is := ([] : List UInt8), keys := [49, 32, 45, 49, 32, 49] } : table.row), ({ name := [83, 73, 78, 84, 69, 82], arity := (-2), is := ([] : List UInt8), keys := [49, 32, 45, 49, 32, 49] } : table.row), ({ name := [83, 68, 73, 70, 70], arity := (-2), is := ([] : List UInt8), keys := [49, 32, 45, 49, 32, 49] } : table.row), ({ name := [83, 85, 78, 73, 79, 78, 83, 84, 79, 82, 69], arity := (-3), is := [119, 103], keys := [49, 32, 45, 49, 32, 49] } : table.row), ({ name := [83, 73, 78, 84, 69, 82, 83, 84, 79, 82, 69], arity := (-3), is := [119, 103], keys := [49, 32, 45, 49, 32, 49] } : table.row), ({ name := [83, 68, 73, 70, 70, 83, 84, 79, 82, 69], arity := (-3), is := [119, 103], keys := [49, 32, 45, 49, 32, 49] } : table.row), ({ name := [83, 73, 78, 84, 69, 82, 67, 65, 82, 68], arity := (-3), is := ([] : List UInt8), keys := [99, 111, 117, 110, 116, 101, 100, 32, 49] } : table.row), ({ name := [83, 83, 67, 65, 78], arity := (-3), is := ([] : List UInt8), keys := [49, 32, 49, 32, 49] } : table.row)]

theorem table.rows4.c_le (k : Nat)  : OLe (table.rows4.c k ) (table.rows4 ) := by
 unfold table.rows4.c table.rows4
 repeat' with_reducible first | exact OLe.refl _ | apply OLe.bind | apply OLe.need | apply OLe.letO | apply OLe.onSum | apply OLe.ite | intro _

def table.rows5.c (k : Nat)  : Option (List table.row) :=
 some [({ name := [90, 65, 68, 68], arity := (-4), is := [119, 103], keys := [49, 32, 49, 32, 49] } : table.row), ({ name := [90, 82, 69, 77], arity := (-3), is := [119], keys := [49, 32, 49, 32, 49] } : table.row), ({ name := [90, 83, 67, 79, 82, 69], arity := 3, is := ([] : List UInt8), keys := [49, 32, 49, 32, 49] } : table.row), ({ name := [90, 77, 83, 67, 79, 82, 69], arity := (-3), is := ([] : List UInt8), keys := [49, 32, 49, 32, 49] } : table.row), ({ name := [90, 73, 78, 67, 82, 66, 89], arity := 4, is := [119, 103], keys := [49, 32, 49, 32, 49] } : table.row), ({ name := [90, 67, 65, 82, 68], arity := 2, is := ([] : List UInt8), keys := [49, 32, 49, 32, 49] } : table.row), ({ name := [90, 67, 79, 85, 78, 84], arity := 4, is := ([] : List UInt8), keys := [49, 32, 49, 32, 49] } : table.row), ({ name := [90, 82, 65, 78, 75], arity := 3, is := ([] : List UInt8), keys := [49, 32, 49, 32, 49] } : table.row), ({ name := [90, 82, 69, 86, 82, 65, 78, 75], arity := 3, is := ([] : List UInt8), keys := [49, 32, 49, 32, 49] } : table.row), ({ name := [90, 82, 65, 78, 71, 69], arity := (-4), is := ([] : List UInt8), keys := [49, 32, 49, 32, 49] } : table.row), ({ name := [90, 82, 69, 86, 82, 65, 78, 71, 69], arity := (-4), is := ([] : List UInt8), keys := [49, 32, 49, 32, 49] } : table.row), ({ name := [90, 82, 65, 78, 71, 69, 66, 89, 83, 67, 79, 82, 69], arity := (-4), is := ([] : List UInt8), keys := [49, 32, 49, 32, 49] } : table.row), ({ name := [90, 82, 69, 86, 82, 65, 78, 71, 69, 66, 89, 83, 67, 79, 82, 69], arity := (-4), is := ([] : List UInt8), keys := [49, 32, 49, 32, 49] } : table.row), ({ name := [90, 82, 69, 77, 82, 65, 78, 71, 69, 66, 89, 82, 65, 78, 75], arity := 4, is := [119], keys := [49, 32, 49, 32, 49] } : table.row), ({ name := [90, 82, 69, 77, 82, 65, 78, 71, 69, 66, 89, 83, 67, 79, 82, 69], arity := 4, is := [119], keys := [49, 32, 49, 32, 49] } : table.row), ({ name := [90, 80, 79, 80, 77, 73, 78], arity := (-2), is := [119], keys := [49, 32, 49, 32, 49] } : table.row), ({ name := [90, 80, 79, 80, 77, 65, 88], arity := (-2), is := [119], keys := [49, 32, 49, 32, 49] } : table.row), ({ name := [90, 85, 78, 73, 79, 78, 83, 84, 79, 82, 69], arity := (-4), is := [119, 103], keys := [99, 111, 117, 110, 116, 101, 100, 32, 50] } : table.row), ({ name := [90, 73, 78, 84, 69, 82, 83, 84, 79, 82, 69], arity := (-4), is := [119, 103], keys := [99, 111, 117, 110, 116, 101, 100, 32, 50] } : table.row), ({ name := [90, 83, 67, 65, 78], arity := (-3), is := ([] : List UInt8), keys := [49, 32, 49, 32, 49] } : table.row)]

theorem table.rows5.c_le (k : Nat)  : OLe (table.rows5.c k ) (table.rows5 ) := by
 unfold table.rows5.c table.rows5
 repeat' with_reducible first | exact OLe.refl _ | apply OLe.bind | apply OLe.need | apply OLe.letO | apply OLe.onSum | apply OLe.ite | intro _

def table.rows6.c (k : Nat)  : Option (List table.row) :=
 some [({ name := [68, 69, 76], arity := (-2), is := [119], keys := [49, 32, 45, 49, 32, 49] } : table.row), ({ name := [85, 78, 76, 73, 78, 75], arity := (-2), is := [119], keys := [49, 32, 45, 49, 32, 49] } : table.row), ({ name := [69, 88, 73, 83, 84, 83], arity := (-2), is := ([] : List UInt8), keys := [49, 32, 45, 49, 32, 49] } : table.row), ({ name := [84, 89, 80, 69], arity := 2, is := ([] : List UInt8), keys := [49, 32, 49, 32, 49] } : table.row), ({ name := [84, 79, 85, 67, 72], arity := (-2), is := ([] : List UInt8), keys := [49, 32, 45, 49, 32, 49] } : table.row), ({ name := [69, 88, 80, 73, 82, 69], arity := 3, is := [119, 103], keys := [49, 32, 49, 32, 49] } : table.row), ({ name := [80, 69, 88, 80, 73, 82, 69], arity := 3, is := [119, 103], keys := [49, 32, 49, 32, 49] } : table.row), ({ name := [69, 88, 80, 73, 82, 69, 65, 84], arity := 3, is := [119, 103], keys := [49, 32, 49, 32, 49] } : table.row), ({ name := [80, 69, 88, 80, 73, 82, 69, 65, 84], arity := 3, is := [119, 103], keys := [49, 32, 49, 32, 49] } : table.row), ({ name := [84, 84, 76], arity := 2, is := ([] : List UInt8), keys := [49, 32, 49, 32, 49] } : table.row), ({ name := [80, 84, 84, 76], arity := 2, is := ([] : List UInt8), keys := [49, 32, 49, 32, 49] } : table.row), ({ name := [69, 88, 80, 73, 82, 69, 84, 73, 77, 69], arity := 2, is := ([] : List UInt8), keys := [49, 32, 49, 32, 49] } : table.row), ({ name := [80, 69, 88, 80, 73, 82, 69, 84, 73, 77, 69], arity := 2, is := ([] : List UInt8), keys := [49, 32, 49, 32, 49] } : table.row), ({ name := [80, 69, 82, 83, 73, 83, 84], arity := 2, is := [119], keys := [49, 32, 49, 32, 49] } : table.row), ({ name := [82, 69, 78, 65, 77, 69], arity := 3, is := [119, 103], keys := [49, 32, 50, 32, 49] } : table.row), ({ name := [82, 69, 78, 65, 77, 69, 78, 88], arity := 3, is := [119, 103], keys := [49, 32, 50, 32, 49] } : table.row), ({ name := [67, 79, 80, 89], arity := (-3), is := [119, 103], keys := [49, 32, 50, 32, 49] } : table.row), ({ name := [75, 69, 89, 83], arity := 2, is := ([] : List UInt8), keys := ([] : List UInt8) } : table.row), ({ name := [83, 67, 65, 78], arity := (-2), is := ([] : List UInt8), keys := ([] : List UInt8) } : table.row), ({ name := [68, 66, 83, 73, 90, 69], arity := 1, is := ([] : List UInt8), keys := ([] : List UInt8) } : table.row), ({ name := [70, 76, 85, 83, 72, 65, 76, 76], arity := 1, is := [119], keys := ([] : List UInt8) } : table.row), ({ name := [69, 67, 72, 79], arity := 2, is := ([] : List UInt8), keys := ([] : List UInt8) } : table.row)]

theorem table.rows6.c_le (k : Nat)  : OLe (table.rows6.c k ) (table.rows6 ) := by
 unfold table.rows6.c table.rows6
 repeat' with_reducible first | exact OLe.refl _ | apply OLe.bind | apply OLe.need | apply OLe.letO | apply OLe.onSum | apply OLe.ite | intro _

def table.rows7.c (k : Nat)  : Option (List table.row) :=
 some [({ name := [80, 73, 78, 71], arity := (-1), is := [102], keys := ([] : List UInt8) } : table.row), ({ name := [65, 85, 84, 72], arity := 2, is := [102], keys := ([] : List UInt8) } : table.row), ({ name := [81, 85, 73, 84], arity := 1, is := [102], keys := ([] : List UInt8) } : table.row), ({ name := [77, 85, 76, 84, 73], arity := 1, is := ([] : List UInt8), keys := ([] : List UInt8) } : table.row), ({ name := [69, 88, 69, 67], arity := 1, is := ([] : List UInt8), keys := ([] : List UInt8) } : table.row), ({ name := [68, 73, 83, 67, 65, 82, 68], arity := 1, is := ([] : List UInt8), keys := ([] : List UInt8) } : table.row), ({ name := [87, 65, 84, 67, 72], arity := (-2), is := ([] : List UInt8), keys := [49, 32, 45, 49, 32, 49] } : table.row), ({ name := [85, 78, 87, 65, 84, 67, 72], arity := 1, is := ([] : List UInt8), keys := ([] : List UInt8) } : table.row), ({ name := [66, 76, 80, 79, 80], arity := (-3), is := [119], keys := [49, 32, 45, 50, 32, 49] } : table.row), ({ name := [66, 82, 80, 79, 80], arity := (-3), is := [119], keys := [49, 32, 45, 50, 32, 49] } : table.row), ({ name := [66, 76, 77, 79, 86, 69], arity := 6, is := [119, 103], keys := [49, 32, 50, 32, 49] } : table.row), ({ name := [83, 85, 66, 83, 67, 82, 73, 66, 69], arity := (-2), is := [102], keys := ([] : List UInt8) } : table.row), ({ name := [85, 78, 83, 85, 66, 83, 67, 82, 73, 66, 69], arity := (-1), is := [102], keys := ([] : List UInt8) } : table.row), ({ name := [80, 83, 85, 66, 83, 67, 82, 73, 66, 69], arity := (-2), is := [102], keys := ([] : List UInt8) } : table.row), ({ name := [80, 85, 78, 83, 85, 66, 83, 67, 82, 73, 66, 69], arity := (-1), is := [102], keys := ([] : List UInt8) } : table.row), ({ name := [80, 85, 66, 76, 73, 83, 72], arity := 3, is := ([] : List UInt8), keys := ([] : List UInt8) } : table.row), ({ name := [66, 71, 82, 69, 87, 82, 73, 84, 69, 65, 79, 70], arity := 1, is := ([] : List UInt8), keys := ([] : List UInt8) } : table.row), ({ name := [73, 78, 70, 79], arity := 1, is := ([] : List UInt8), keys := ([] : List UInt8) } : table.row)]

theorem table.rows7.c_le (k : Nat)  : OLe (table.rows7.c k ) (table.rows7 ) := by
 unfold table.rows7.c table.rows7
 repeat' with_reducible first | exact OLe.refl _ | apply OLe.bind | apply OLe.need | apply OLe.letO | apply OLe.onSum | apply OLe.ite | intro _

def table.rows.c (k : Nat) (of : Int) : Option (List table.row) :=
 if of = 1 then
  (table.rows1.c k).bind fun r14 =>
  some r14
 else
  if of = 2 then
   (table.rows2.c k).bind fun r15 =>
   some r15
  else
   if of = 3 then
    (table.rows3.c k).bind fun r16 =>
    some r16
   else
    if of = 4 then
     (table.rows4.c k).bind fun r17 =>
     some r17
    else
     if of = 5 then
      (table.rows5.c k).bind fun r18 =>
      some r18
     else
      if of = 6 then
       (table.rows6.c k).bind fun r19 =>
       some r19
      else
       (table.rows7.c k).bind fun r20 =>
       some r20

theorem table.rows.c_le (k : Nat) (of : Int) : OLe (table.rows.c k of) (table.rows of) := by
 unfold table.rows.c table.rows
 repeat' with_reducible first | exact OLe.refl _ | apply table.rows1.c_le | apply table.rows2.c_le | apply table.rows3.c_le | apply table.rows4.c_le | apply table.rows5.c_le | apply table.rows6.c_le | apply table.rows7.c_le | apply OLe.bind | apply OLe.need | apply OLe.letO | apply OLe.onSum | apply OLe.ite | intro _

def strings.Contains.c (k : Nat) (a : List UInt8) (b : List UInt8) : Option Bool :=
 need (b.length = 1) <|
 some (decide (0 ≤ Go.Lib.indexByte a (b.headD 0)))

theorem strings.Contains.c_le (k : Nat) (a : List UInt8) (b : List UInt8) : OLe (strings.Contains.c k a b) (strings.Contains a b) := by
 unfold strings.Contains.c strings.Contains
 repeat' with_reducible first | exact OLe.refl _ | apply OLe.bind | apply OLe.need | apply OLe.letO | apply OLe.onSum | apply OLe.ite | intro _

def strings.Fields.c (k : Nat) (a : List UInt8) : Option (List (List UInt8)) :=
 need (a.length < 4294967281 ∧ (∀ b, b ∈ a → b.toNat < 128) ∧ (Go.Lib.fields a).length ≤ maxLen) <|
 some (Go.Lib.fields a)

theorem strings.Fields.c_le (k : Nat) (a : List UInt8) : OLe (strings.Fields.c k a) (strings.Fields a) := by
 unfold strings.Fields.c strings.Fields
 repeat' with_reducible first | exact OLe.refl _ | apply OLe.bind | apply OLe.need | apply OLe.letO | apply OLe.onSum | apply OLe.ite | intro _

def num.Parse.body0.c (k : Nat) (s120 : List UInt8) (s194 : num.Parse.S0) : Option (num.Parse.S0 ⊕ (Int ⊕ (Int × Bool))) :=
 if s194.t42 < (s120.length : Int) then
  need (InB s194.t42 s120.length) <|
  letO (
   if (bix s120 s194.t42) < 48 then
    true
   else
    decide (57 < (bix s120 s194.t42))) fun s200 =>
  if s200 = true then
   some (.inr (.inr (0, false)))
  else
   letO (IntKind.wrap .u64 ((IntKind.wrap .u64 (s194.n * 10)) + (IntKind.wrap .u64 (IntKind.wrap .u8 ((bix s120 s194.t42) - 48))))) fun x204 =>
   some (.inl ⟨x204, IntKind.wrap .i64 (s194.t42 + 1)⟩)
 else
  some (.inr (.inl s194.n))

theorem num.Parse.body0.c_le (k : Nat) (s120 : List UInt8) (s194 : num.Parse.S0) : OLe (num.Parse.body0.c k s120 s194) (num.Parse.body0 s120 s194) := by
 unfold num.Parse.body0.c num.Parse.body0
 repeat' with_reducible first | exact OLe.refl _ | apply OLe.bind | apply OLe.need | apply OLe.letO | apply OLe.onSum | apply OLe.ite | intro _

def num.Parse.loop0.c (k : Nat) (s120 : List UInt8) (s194 : num.Parse.S0) : Option (Int ⊕ (Int × Bool)) := iterO (num.Parse.body0.c k s120) k s194

theorem num.Parse.loop0.c_le (k : Nat) (s120 : List UInt8) (s194 : num.Parse.S0) : OLe (num.Parse.loop0.c k s120 s194) (num.Parse.loop0 s120 s194) := by
 unfold num.Parse.loop0.c num.Parse.loop0
 exact OLe.iter (fun s => num.Parse.body0.c_le k s120 s) k _

def num.Parse.c (k : Nat) (s_ : List UInt8) : Option (Int × Bool) :=
 (
  if s_ = ([] : List UInt8) then
   some false
  else
   need (InB 0 s_.length) <|
   some (decide ((bix s_ 0) = 45))).bind fun s113 =>
 (
  if s113 = true then
   need (InR 1 (s_.length : Int) s_.length) <|
   some (sub s_ 1 (s_.length : Int))
  else
   some s_).bind fun s120 =>
 (
  if s120 = ([] : List UInt8) then
   some true
  else
   if 19 < (s120.length : Int) then
    some true
   else
    need (InB 0 s120.length) <|
    if (bix s120 0) = 48 then
     if s113 = true then
      some true
     else
      some (decide (1 < (s120.length : Int)))
    else
     some false).bind fun s130 =>
 if s130 = true then
  some (0, false)
 else
  (num.Parse.loop0.c k s120 ⟨0, 0⟩).bind fun s219 => onSum s219 (fun s171 =>
   letO (
    if s113 = true then
     decide (s171 ≤ 9223372036854775808)
    else
     false) fun s208 =>
   if s208 = true then
    some (IntKind.wrap .i64 (0 - (IntKind.wrap .i64 s171)), true)
   else
    letO (
     if s113 = true then
      true
     else
      decide (9223372036854775808 ≤ s171)) fun s213 =>
    if s213 = true then
     some (0, false)
    else
     some (IntKind.wrap .i64 s171, true)) fun s219x => some s219x

theorem num.Parse.c_le (k : Nat) (s_ : List UInt8) : OLe (num.Parse.c k s_) (num.Parse s_) := by
 unfold num.Parse.c num.Parse
 repeat' with_reducible first | exact OLe.refl _ | apply num.Parse.loop0.c_le | apply OLe.bind | apply OLe.need | apply OLe.letO | apply OLe.onSum | apply OLe.ite | intro _

def table.command.c (k : Nat) (of : Int) (r_ : table.row) : Option api.Command :=
 (strings.Contains.c k r_.is [119]).bind fun r32 =>
 (strings.Contains.c k r_.is [103]).bind fun r33 =>
 (strings.Contains.c k r_.is [102]).bind fun r34 =>
 (
  if r_.keys = ([] : List UInt8) then
   some (0, 0, 0, 0)
  else
   if r_.keys = [99, 111, 117, 110, 116, 101, 100, 32, 50] then
    some (2, 0, 0, 0)
   else
    if r_.keys = [99, 111, 117, 110, 116, 101, 100, 32, 49] then
     some (3, 0, 0, 0)
    else
     (strings.Fields.c k r_.keys).bind fun r49 =>
     need (InB 0 r49.length) <|
     (num.Parse.c k (ix r49 0)).bind fun r51 =>
     need (InB 1 r49.length) <|
     (num.Parse.c k (ix r49 1)).bind fun r53 =>
     need (InB 2 r49.length) <|
     (num.Parse.c k (ix r49 2)).bind fun r55 =>
     some (1, r51.1, r53.1, r55.1)).bind fun s46 =>
 some ({ Name := r_.name, Arity := r_.arity, Of := of, Write := r32, Grow := r33, Free := r34, Keys := s46.1, First := s46.2.1, Last := s46.2.2.1, Step := s46.2.2.2 } : api.Command)

theorem table.command.c_le (k : Nat) (of : Int) (r_ : table.row) : OLe (table.command.c k of r_) (table.command of r_) := by
 unfold table.command.c table.command
 repeat' with_reducible first | exact OLe.refl _ | apply strings.Contains.c_le | apply strings.Fields.c_le | apply num.Parse.c_le | apply OLe.bind | apply OLe.need | apply OLe.letO | apply OLe.onSum | apply OLe.ite | intro _

def table.Find.body2.c (k : Nat) (r600 : List table.row) (r314 : List UInt8) (s571 : table.Find.S0) (s613 : table.Find.S2) : Option (table.Find.S2 ⊕ (Unit ⊕ (table.Find.S0 ⊕ (Unit ⊕ (api.Command × Bool))))) :=
 if s613.t16 < (r600.length : Int) then
  need (InB s613.t16 r600.length) <|
  if (ix r600 s613.t16).name = r314 then
   (table.command.c k s571.of (ix r600 s613.t16)).bind fun r619 =>
   some (.inr (.inr (.inr (.inr (r619, true)))))
  else
   some (.inl ⟨IntKind.wrap .i64 (s613.t16 + 1)⟩)
 else
  some (.inr (.inl ()))

theorem table.Find.body2.c_le (k : Nat) (r600 : List table.row) (r314 : List UInt8) (s571 : table.Find.S0) (s613 : table.Find.S2) : OLe (table.Find.body2.c k r600 r314 s571 s613) (table.Find.body2 r600 r314 s571 s613) := by
 unfold table.Find.body2.c table.Find.body2
 repeat' with_reducible first | exact OLe.refl _ | apply table.command.c_le | apply OLe.bind | apply OLe.need | apply OLe.letO | apply OLe.onSum | apply OLe.ite | intro _

def table.Find.loop2.c (k : Nat) (r600 : List table.row) (r314 : List UInt8) (s571 : table.Find.S0) (s613 : table.Find.S2) : Option (Unit ⊕ (table.Find.S0 ⊕ (Unit ⊕ (api.Command × Bool)))) := iterO (table.Find.body2.c k r600 r314 s571) k s613

theorem table.Find.loop2.c_le (k : Nat) (r600 : List table.row) (r314 : List UInt8) (s571 : table.Find.S0) (s613 : table.Find.S2) : OLe (table.Find.loop2.c k r600 r314 s571 s613) (table.Find.loop2 r600 r314 s571 s613) := by
 unfold table.Find.loop2.c table.Find.loop2
 exact OLe.iter (fun s => table.Find.body2.c_le k r600 r314 s571 s) k _

def table.Find.body0.c (k : Nat) (r314 : List UInt8) (s571 : table.Find.S0) : Option (table.Find.S0 ⊕ (Unit ⊕ (api.Command × Bool))) :=
 if s571.of ≤ 7 then
  (
   (table.rows.c k s571.of).bind fun r600 =>
   table.Find.loop2.c k r600 r314 s571 ⟨0⟩).bind fun s622 => onSum s622 (fun s597 =>
   some (.inl ⟨IntKind.wrap .i64 (s571.of + 1)⟩)) fun s622x => some s622x
 else
  some (.inr (.inl ()))

theorem table.Find.body0.c_le (k : Nat) (r314 : List UInt8) (s571 : table.Find.S0) : OLe (table.Find.body0.c k r314 s571) (table.Find.body0 r314 s571) := by
 unfold table.Find.body0.c table.Find.body0
 repeat' with_reducible first | exact OLe.refl _ | apply table.rows.c_le | apply table.Find.loop2.c_le | apply OLe.bind | apply OLe.need | apply OLe.letO | apply OLe.onSum | apply OLe.ite | intro _

def table.Find.loop0.c (k : Nat) (r314 : List UInt8) (s571 : table.Find.S0) : Option (Unit ⊕ (api.Command × Bool)) := iterO (table.Find.body0.c k r314) k s571

theorem table.Find.loop0.c_le (k : Nat) (r314 : List UInt8) (s571 : table.Find.S0) : OLe (table.Find.loop0.c k r314 s571) (table.Find.loop0 r314 s571) := by
 unfold table.Find.loop0.c table.Find.loop0
 exact OLe.iter (fun s => table.Find.body0.c_le k r314 s) k _

def table.Find.c (k : Nat) (name : List UInt8) : Option (api.Command × Bool) :=
 (table.Upper.c k name).bind fun r314 =>
 (table.Find.loop0.c k r314 ⟨1⟩).bind fun s624 => onSum s624 (fun s468 =>
  some (({ Name := ([] : List UInt8), Arity := 0, Of := 0, Write := false, Grow := false, Free := false, Keys := 0, First := 0, Last := 0, Step := 0 } : api.Command), false)) fun s624x => some s624x

theorem table.Find.c_le (k : Nat) (name : List UInt8) : OLe (table.Find.c k name) (table.Find name) := by
 unfold table.Find.c table.Find
 repeat' with_reducible first | exact OLe.refl _ | apply table.Upper.c_le | apply table.Find.loop0.c_le | apply OLe.bind | apply OLe.need | apply OLe.letO | apply OLe.onSum | apply OLe.ite | intro _

def table.Fits.c (k : Nat) (c_ : api.Command) (n_ : Int) : Option Bool :=
 if c_.Arity < 0 then
  letO (
   if 0 ≤ n_ then
    decide ((IntKind.wrap .i64 (0 - n_)) ≤ c_.Arity)
   else
    false) fun s10 =>
  some s10
 else
  some (decide (n_ = c_.Arity))

theorem table.Fits.c_le (k : Nat) (c_ : api.Command) (n_ : Int) : OLe (table.Fits.c k c_ n_) (table.Fits c_ n_) := by
 unfold table.Fits.c table.Fits
 repeat' with_reducible first | exact OLe.refl _ | apply OLe.bind | apply OLe.need | apply OLe.letO | apply OLe.onSum | apply OLe.ite | intro _

def table.places.c (k : Nat) (c_ : api.Command) (n_ : Int) : Option (api.Command × Int) :=
 some (c_, n_)

theorem table.places.c_le (k : Nat) (c_ : api.Command) (n_ : Int) : OLe (table.places.c k c_ n_) (table.places c_ n_) := by
 unfold table.places.c table.places
 repeat' with_reducible first | exact OLe.refl _ | apply OLe.bind | apply OLe.need | apply OLe.letO | apply OLe.onSum | apply OLe.ite | intro _

def table.places_1.c (k : Nat) (first : Int) (last : Int) (step : Int) (n : Int) : Option (List Int) := placesL (if last < 0 then IntKind.wrap .i64 (last + n) else last) step k first

theorem table.places_1.c_le (k : Nat) (first : Int) (last : Int) (step : Int) (n : Int) : OLe (table.places_1.c k first last step n) (table.places_1 first last step n) := by
 unfold table.places_1.c table.places_1
 exact OLe.places _

def table.counted.c (k : Nat) (args : List (List UInt8)) (at_ : Int) : Option (Int × Bool) :=
 need (InB at_ args.length) <|
 (num.Parse.c k (ix args at_)).bind fun r11 =>
 letO (
  if r11.2 = true then
   if 1 ≤ r11.1 then
    decide (r11.1 ≤ (IntKind.wrap .i64 ((IntKind.wrap .i64 ((args.length : Int) - at_)) - 1)))
   else
    false
  else
   false) fun s14 =>
 some (r11.1, s14)

theorem table.counted.c_le (k : Nat) (args : List (List UInt8)) (at_ : Int) : OLe (table.counted.c k args at_) (table.counted args at_) := by
 unfold table.counted.c table.counted
 repeat' with_reducible first | exact OLe.refl _ | apply num.Parse.c_le | apply OLe.bind | apply OLe.need | apply OLe.letO | apply OLe.onSum | apply OLe.ite | intro _

def table.Keys.body1.c (k : Nat) (args : List (List UInt8)) (s209 : table.Keys.S1) (x211 : Int) : Option table.Keys.S1 :=
 need (InB x211 args.length) <|
 need ((s209.c.length + [ix args x211].length) * 16 ≤ 140737488355328) <|
 some ⟨s209.c ++ [ix args x211]⟩

theorem table.Keys.body1.c_le (k : Nat) (args : List (List UInt8)) (s209 : table.Keys.S1) (x211 : Int) : OLe (table.Keys.body1.c k args s209 x211) (table.Keys.body1 args s209 x211) := by
 unfold table.Keys.body1.c table.Keys.body1
 repeat' with_reducible first | exact OLe.refl _ | apply OLe.bind | apply OLe.need | apply OLe.letO | apply OLe.onSum | apply OLe.ite | intro _

def table.Keys.each1.c (k : Nat) (args : List (List UInt8)) (xs : List Int) (s209 : table.Keys.S1) : Option table.Keys.S1 := eachO (table.Keys.body1.c k args) xs s209

theorem table.Keys.each1.c_le (k : Nat) (args : List (List UInt8)) (xs : List Int) (s209 : table.Keys.S1) : OLe (table.Keys.each1.c k args xs s209) (table.Keys.each1 args xs s209) := by
 unfold table.Keys.each1.c table.Keys.each1
 repeat' with_reducible first | exact OLe.refl _ | apply OLe.each | apply table.Keys.body1.c_le | apply OLe.bind | apply OLe.need | apply OLe.letO | apply OLe.onSum | apply OLe.ite | intro _

def table.Keys.c (k : Nat) (args : List (List UInt8)) : Option ((List (List UInt8)) × Bool) :=
 if (args.length : Int) = 0 then
  some (([] : List (List UInt8)), false)
 else
  need (InB 0 args.length) <|
  (table.Find.c k (ix args 0)).bind fun r128 =>
  (
   if (!r128.2) = true then
    some true
   else
    (table.Fits.c k r128.1 (args.length : Int)).bind fun r136 =>
    some (!r136)).bind fun s132 =>
  if s132 = true then
   some (([] : List (List UInt8)), false)
  else
   (
    if r128.1.Keys = 1 then
     (table.places.c k r128.1 (args.length : Int)).bind fun r195 =>
     (table.places_1.c k r195.1.First r195.1.Last r195.1.Step r195.2).bind fun r217 =>
     (table.Keys.each1.c k args r217 ⟨([] : List (List UInt8))⟩).bind fun s218 =>
     some (.inl s218.c)
    else
     letO (
      if r128.1.Keys = 2 then
       decide (r128.1.Keys = 2)
      else
       decide (r128.1.Keys = 3)) fun s223 =>
     if s223 = true then
      (
       if r128.1.Keys = 2 then
        need (InB 1 args.length) <|
        need ((([] : List (List UInt8)).length + [ix args 1].length) * 16 ≤ 140737488355328) <|
        some (2, ([] : List (List UInt8)) ++ [ix args 1])
       else
        some (1, ([] : List (List UInt8)))).bind fun s231 =>
      (table.counted.c k args s231.1).bind fun r240 =>
      if (!r240.2) = true then
       some (.inr (([] : List (List UInt8)), false))
      else
       need (InR (IntKind.wrap .i64 (s231.1 + 1)) (IntKind.wrap .i64 ((IntKind.wrap .i64 (s231.1 + 1)) + r240.1)) args.length) <|
       need ((s231.2.length + (sub args (IntKind.wrap .i64 (s231.1 + 1)) (IntKind.wrap .i64 ((IntKind.wrap .i64 (s231.1 + 1)) + r240.1))).length) * 16 ≤ 140737488355328) <|
       some (.inl (s231.2 ++ (sub args (IntKind.wrap .i64 (s231.1 + 1)) (IntKind.wrap .i64 ((IntKind.wrap .i64 (s231.1 + 1)) + r240.1)))))
     else
      some (.inl ([] : List (List UInt8)))).bind fun s249 => onSum s249 (fun s191 =>
    some (s191, true)) fun s249x => some s249x

theorem table.Keys.c_le (k : Nat) (args : List (List UInt8)) : OLe (table.Keys.c k args) (table.Keys args) := by
 unfold table.Keys.c table.Keys
 repeat' with_reducible first | exact OLe.refl _ | apply table.Find.c_le | apply table.Fits.c_le | apply table.places.c_le | apply table.places_1.c_le | apply table.Keys.each1.c_le | apply table.counted.c_le | apply OLe.bind | apply OLe.need | apply OLe.letO | apply OLe.onSum | apply OLe.ite | intro _

def mewsref02.Same.body0.c (k : Nat) (a : List (List UInt8)) (b : List (List UInt8)) (s73 : mewsref02.Same.S0) : Option (mewsref02.Same.S0 ⊕ (Unit ⊕ Bool)) :=
 if s73.i < (a.length : Int) then
  need (InB s73.i a.length) <|
  need (InB s73.i b.length) <|
  if (ix a s73.i) = (ix b s73.i) then
   some (.inl ⟨IntKind.wrap .i64 (s73.i + 1)⟩)
  else
   some (.inr (.inr false))
 else
  some (.inr (.inl ()))

theorem mewsref02.Same.body0.c_le (k : Nat) (a : List (List UInt8)) (b : List (List UInt8)) (s73 : mewsref02.Same.S0) : OLe (mewsref02.Same.body0.c k a b s73) (mewsref02.Same.body0 a b s73) := by
 unfold mewsref02.Same.body0.c mewsref02.Same.body0
 repeat' with_reducible first | exact OLe.refl _ | apply OLe.bind | apply OLe.need | apply OLe.letO | apply OLe.onSum | apply OLe.ite | intro _

def mewsref02.Same.loop0.c (k : Nat) (a : List (List UInt8)) (b : List (List UInt8)) (s73 : mewsref02.Same.S0) : Option (Unit ⊕ Bool) := iterO (mewsref02.Same.body0.c k a b) k s73

theorem mewsref02.Same.loop0.c_le (k : Nat) (a : List (List UInt8)) (b : List (List UInt8)) (s73 : mewsref02.Same.S0) : OLe (mewsref02.Same.loop0.c k a b s73) (mewsref02.Same.loop0 a b s73) := by
 unfold mewsref02.Same.loop0.c mewsref02.Same.loop0
 exact OLe.iter (fun s => mewsref02.Same.body0.c_le k a b s) k _

def mewsref02.Same.c (k : Nat) (a : List (List UInt8)) (b : List (List UInt8)) : Option Bool :=
 if (a.length : Int) = (b.length : Int) then
  (mewsref02.Same.loop0.c k a b ⟨0⟩).bind fun s81 => onSum s81 (fun s60 =>
   some true) fun s81x => some s81x
 else
  some false

theorem mewsref02.Same.c_le (k : Nat) (a : List (List UInt8)) (b : List (List UInt8)) : OLe (mewsref02.Same.c k a b) (mewsref02.Same a b) := by
 unfold mewsref02.Same.c mewsref02.Same
 repeat' with_reducible first | exact OLe.refl _ | apply mewsref02.Same.loop0.c_le | apply OLe.bind | apply OLe.need | apply OLe.letO | apply OLe.onSum | apply OLe.ite | intro _

def mewslaw28.alive.c (k : Nat)  : Option Bool :=
 (table.Keys.c k [[109, 115, 101, 116], [97], [49], [98], [50]]).bind fun r22 =>
 (table.Keys.c k [[90, 85, 78, 73, 79, 78, 83, 84, 79, 82, 69], [100], [50], [120], [121], [87, 69, 73, 71, 72, 84, 83], [49], [50]]).bind fun r24 =>
 (
  (mewsref02.Same.c k r22.1 [[97], [98]]).bind fun r36 =>
  if r36 = true then
   if r22.2 = true then
    (mewsref02.Same.c k r24.1 [[100], [120], [121]]).bind fun r39 =>
    if r39 = true then
     if r24.2 = true then
      (table.Upper.c k [97, 90, 45, 195, 169]).bind fun r42 =>
      some (decide (r42 = [65, 90, 45, 195, 169]))
     else
      some false
    else
     some false
   else
    some false
  else
   some false).bind fun s33 =>
 some s33

theorem mewslaw28.alive.c_le (k : Nat)  : OLe (mewslaw28.alive.c k ) (mewslaw28.alive ) := by
 unfold mewslaw28.alive.c mewslaw28.alive
 repeat' with_reducible first | exact OLe.refl _ | apply table.Keys.c_le | apply mewsref02.Same.c_le | apply table.Upper.c_le | apply OLe.bind | apply OLe.need | apply OLe.letO | apply OLe.onSum | apply OLe.ite | intro _

end Go.Pu
