/- Printed by lift.py: the functions over data. -/
import Derived.Test.YtngliepchpkiiaaDoorTAT
set_option maxRecDepth 100000
set_option maxHeartbeats 0
noncomputable section
namespace Go.Pu
open Go.Lift

structure mewslaw28.far.S0 where
 t7 : Int

def mewslaw28.far.body0 (l : List (List UInt8)) (s61 : mewslaw28.far.S0) : Option (mewslaw28.far.S0 ⊕ (Unit ⊕ Bool)) :=
 if s61.t7 < (l.length : Int) then
  need (InB s61.t7 l.length) <|
  if 300 < ((ix l s61.t7).length : Int) then
   some (.inr (.inr true))
  else
   some (.inl ⟨IntKind.wrap .i64 (s61.t7 + 1)⟩)
 else
  some (.inr (.inl ()))

def mewslaw28.far.loop0 (l : List (List UInt8)) (s61 : mewslaw28.far.S0) : Option (Unit ⊕ Bool) := whileO (mewslaw28.far.body0 l) s61

def mewslaw28.far (l : List (List UInt8)) : Option Bool :=
 (mewslaw28.far.loop0 l ⟨0⟩).bind fun s68 => onSum s68 (fun s50 =>
  some (decide (100 < (l.length : Int)))) fun s68x => some s68x

structure table.Upper.S0 where
 t10 : Int
 v : List UInt8

def table.Upper.body0 (name : List UInt8) (s317 : table.Upper.S0) : Option (table.Upper.S0 ⊕ (List UInt8)) :=
 if s317.t10 < (name.length : Int) then
  (
   need (InB s317.t10 s317.v.length) <|
   need (InB s317.t10 s317.v.length) <|
   letO (
    if 97 ≤ ((ix s317.v s317.t10).toNat : Int) then
     decide (((ix s317.v s317.t10).toNat : Int) ≤ 122)
    else
     false) fun s338 =>
   if s338 = true then
    need (InB s317.t10 s317.v.length) <|
    need (InB s317.t10 s317.v.length) <|
    need (IsU8 (IntKind.wrap .u8 ((IntKind.wrap .u8 (((ix s317.v s317.t10).toNat : Int) - 97)) + 65))) <|
    some (upd s317.v s317.t10 (u8 (IntKind.wrap .u8 ((IntKind.wrap .u8 (((ix s317.v s317.t10).toNat : Int) - 97)) + 65))))
   else
    some s317.v).bind fun s332 =>
  some (.inl ⟨IntKind.wrap .i64 (s317.t10 + 1), s332⟩)
 else
  some (.inr s317.v)

def table.Upper.loop0 (name : List UInt8) (s317 : table.Upper.S0) : Option (List UInt8) := whileO (table.Upper.body0 name) s317

def table.Upper (name : List UInt8) : Option (List UInt8) :=
 need (name.length ≤ 140737488355328) <|
 (table.Upper.loop0 name ⟨0, name⟩).bind fun s260 =>
 some s260

def table.rows1  : Option (List table.row) :=
 some [({ name := [71, 69, 84], arity := 2, is := ([] : List UInt8), keys := [49, 32, 49, 32, 49] } : table.row), ({ name := [83, 69, 84], arity := (-3), is := [119, 103], keys := [49, 32, 49, 32, 49] } : table.row), ({ name := [83, 69, 84, 78, 88], arity := 3, is := [119, 103], keys := [49, 32, 49, 32, 49] } : table.row), ({ name := [83, 69, 84, 69, 88], arity := 4, is := [119, 103], keys := [49, 32, 49, 32, 49] } : table.row), ({ name := [80, 83, 69, 84, 69, 88], arity := 4, is := [119, 103], keys := [49, 32, 49, 32, 49] } : table.row), ({ name := [71, 69, 84, 83, 69, 84], arity := 3, is := [119, 103], keys := [49, 32, 49, 32, 49] } : table.row), ({ name := [71, 69, 84, 68, 69, 76], arity := 2, is := [119], keys := [49, 32, 49, 32, 49] } : table.row), ({ name := [71, 69, 84, 69, 88], arity := (-2), is := [119, 103], keys := [49, 32, 49, 32, 49] } : table.row), ({ name := [77, 71, 69, 84], arity := (-2), is := ([] : List UInt8), keys := [49, 32, 45, 49, 32, 49] } : table.row), ({ name := [77, 83, 69, 84], arity := (-3), is := [119, 103], keys := [49, 32, 45, 49, 32, 50] } : table.row), ({ name := [77, 83, 69, 84, 78, 88], arity := (-3), is := [119, 103], keys := [49, 32, 45, 49, 32, 50] } : table.row), ({ name := [65, 80, 80, 69, 78, 68], arity := 3, is := [119, 103], keys := [49, 32, 49, 32, 49] } : table.row), ({ name := [83, 84, 82, 76, 69, 78], arity := 2, is := ([] : List UInt8), keys := [49, 32, 49, 32, 49] } : table.row), ({ name := [83, 69, 84, 82, 65, 78, 71, 69], arity := 4, is := [119, 103], keys := [49, 32, 49, 32, 49] } : table.row), ({ name := [71, 69, 84, 82, 65, 78, 71, 69], arity := 4, is := ([] : List UInt8), keys := [49, 32, 49, 32, 49] } : table.row), ({ name := [73, 78, 67, 82], arity := 2, is := [119, 103], keys := [49, 32, 49, 32, 49] } : table.row), ({ name := [68, 69, 67, 82], arity := 2, is := [119, 103], keys := [49, 32, 49, 32, 49] } : table.row), ({ name := [73, 78, 67, 82, 66, 89], arity := 3, is := [119, 103], keys := [49, 32, 49, 32, 49] } : table.row), ({ name := [68, 69, 67, 82, 66, 89], arity := 3, is := [119, 103], keys := [49, 32, 49, 32, 49] } : table.row), ({ name := [83, 69, 84, 66, 73, 84], arity := 4, is := [119, 103], keys := [49, 32, 49, 32, 49] } : table.row), ({ name := [71, 69, 84, 66, 73, 84], arity := 3, is := ([] : List UInt8), keys := [49, 32, 49, 32, 49] } : table.row), ({ name := [66, 73, 84, 67, 79, 85, 78, 84], arity := (-2), is := ([] : List UInt8), keys := [49, 32, 49, 32, 49] } : table.row)]

def table.rows2  : Option (List table.row) :=
 some [({ name := [76, 80, 85, 83, 72], arity := (-3), is := [119, 103], keys := [49, 32, 49, 32, 49] } : table.row), ({ name := [82, 80, 85, 83, 72], arity := (-3), is := [119, 103], keys := [49, 32, 49, 32, 49] } : table.row), ({ name := [76, 80, 85, 83, 72, 88], arity := (-3), is := [119, 103], keys := [49, 32, 49, 32, 49] } : table.row), ({ name := [82, 80, 85, 83, 72, 88], arity := (-3), is := [119, 103], keys := [49, 32, 49, 32, 49] } : table.row), ({ name := [76, 80, 79, 80], arity := (-2), is := [119], keys := [49, 32, 49, 32, 49] } : table.row), ({ name := [82, 80, 79, 80], arity := (-2), is := [119], keys := [49, 32, 49, 32, 49] } : table.row), ({ name := [76, 76, 69, 78], arity := 2, is := ([] : List UInt8), keys := [49, 32, 49, 32, 49] } : table.row), ({ name := [76, 73, 78, 68, 69, 88], arity := 3, is := ([] : List UInt8), keys := [49, 32, 49, 32, 49] } : table.row), ({ name := [76, 83, 69, 84], arity := 4, is := [119, 103], keys := [49, 32, 49, 32, 49] } : table.row), ({ name := [76, 82, 65, 78, 71, 69], arity := 4, is := ([] : List UInt8), keys := [49, 32, 49, 32, 49] } : table.row), ({ name := [76, 84, 82, 73, 77], arity := 4, is := [119], keys := [49, 32, 49, 32, 49] } : table.row), ({ name := [76, 82, 69, 77], arity := 4, is := [119], keys := [49, 32, 49, 32, 49] } : table.row), ({ name := [76, 73, 78, 83, 69, 82, 84], arity := 5, is := [119, 103], keys := [49, 32, 49, 32, 49] } : table.row), ({ name := [76, 80, 79, 83], arity := (-3), is := ([] : List UInt8), keys := [49, 32, 49, 32, 49] } : table.row), ({ name := [76, 77, 79, 86, 69], arity := 5, is := [119, 103], keys := [49, 32, 50, 32, 49] } : table.row), ({ name := [82, 80, 79, 80, 76, 80, 85, 83, 72], arity := 3, is := [119, 103], keys := [49, 32, 50, 32, 49] } : table.row)]

def table.rows3  : Option (List table.row) :=
 some [({ name := [72, 83, 69, 84], arity := (-4), is := [119, 103], keys := [49, 32, 49, 32, 49] } : table.row), ({ name := [72, 83, 69, 84, 78, 88], arity := 4, is := [119, 103], keys := [49, 32, 49, 32, 49] } : table.row), ({ name := [72, 77, 83, 69, 84], arity := (-4), is := [119, 103], keys := [49, 32, 49, 32, 49] } : table.row), ({ name := [72, 71, 69, 84], arity := 3, is := ([] : List UInt8), keys := [49, 32, 49, 32, 49] } : table.row), ({ name := [72, 77, 71, 69, 84], arity := (-3), is := ([] : List UInt8), keys := [49, 32, 49, 32, 49] } : table.row), ({ name := [72, 68, 69, 76], arity := (-3), is := [119], keys := [49, 32, 49, 32, 49] } : table.row), ({ name := [72, 69, 88, 73, 83, 84, 83], arity := 3, is := ([] : List UInt8), keys := [49, 32, 49, 32, 49] } : table.row), ({ name := [72, 76, 69, 78], arity := 2, is := ([] : List UInt8), keys := [49, 32, 49, 32, 49] } : table.row), ({ name := [72, 83, 84, 82, 76, 69, 78], arity := 3, is := ([] : List UInt8), keys := [49, 32, 49, 32, 49] } : table.row), ({ name := [72, 75, 69, 89, 83], arity := 2, is := ([] : List UInt8), keys := [49, 32, 49, 32, 49] } : table.row), ({ name := [72, 86, 65, 76, 83], arity := 2, is := ([] : List UInt8), keys := [49, 32, 49, 32, 49] } : table.row), ({ name := [72, 71, 69, 84, 65, 76, 76], arity := 2, is := ([] : List UInt8), keys := [49, 32, 49, 32, 49] } : table.row), ({ name := [72, 73, 78, 67, 82, 66, 89], arity := 4, is := [119, 103], keys := [49, 32, 49, 32, 49] } : table.row), ({ name := [72, 83, 67, 65, 78], arity := (-3), is := ([] : List UInt8), keys := [49, 32, 49, 32, 49] } : table.row)]

def table.rows4  : Option (List table.row) :=
 some [({ name := [83, 65, 68, 68], arity := (-3), is := [119, 103], keys := [49, 32, 49, 32, 49] } : table.row), ({ name := [83, 82, 69, 77], arity := (-3), is := [119], keys := [49, 32, 49, 32, 49] } : table.row), ({ name := [83, 73, 83, 77, 69, 77, 66, 69, 82], arity := 3, is := ([] : List UInt8), keys := [49, 32, 49, 32, 49] } : table.row), ({ name := [83, 77, 73, 83, 77, 69, 77, 66, 69, 82], arity := (-3), is := ([] : List UInt8), keys := [49, 32, 49, 32, 49] } : table.row), ({ name := [83, 67, 65, 82, 68], arity := 2, is := ([] : List UInt8), keys := [49, 32, 49, 32, 49] } : table.row), ({ name := [83, 77, 69, 77, 66, 69, 82, 83], arity := 2, is := ([] : List UInt8), keys := [49, 32, 49, 32, 49] } : table.row), ({ name := [83, 80, 79, 80], arity := (-2), is := [119], keys := [49, 32, 49, 32, 49] } : table.row), ({ name := [83, 77, 79, 86, 69], arity := 4, is := [119, 103], keys := [49, 32, 50, 32, 49] } : table.row), ({ name := [83, 85, 78, 73, 79, 78], arity := (-2), is := ([] : List UInt8), keys := [49, 32, 45, 49, 32, 49] } : table.row), ({ name := [83, 73, 78, 84, 69, 82], arity := (-2), is := ([] : List UInt8), keys := [49, 32, 45, 49, 32, 49] } : table.row), ({ name := [83, 68, 73, 70, 70], arity := (-2), is := ([] : List UInt8), keys := [49, 32, 45, 49, 32, 49] } : table.row), ({ name := [83, 85, 78, 73, 79, 78, 83, 84, 79, 82, 69], arity := (-3), is := [119, 103], keys := [49, 32, 45, 49, 32, 49] } : table.row), ({ name := [83, 73, 78, 84, 69, 82, 83, 84, 79, 82, 69], arity := (-3), is := [119, 103], keys := [49, 32, 45, 49, 32, 49] } : table.row), ({ name := [83, 68, 73, 70, 70, 83, 84, 79, 82, 69], arity := (-3), is := [119, 103], keys := [49, 32, 45, 49, 32, 49] } : table.row), ({ name := [83, 73, 78, 84, 69, 82, 67, 65, 82, 68], arity := (-3), is := ([] : List UInt8), keys := [99, 111, 117, 110, 116, 101, 100, 32, 49] } : table.row), ({ name := [83, 83, 67, 65, 78], arity := (-3), is := ([] : List UInt8), keys := [49, 32, 49, 32, 49] } : table.row)]

def table.rows5  : Option (List table.row) :=
 some [({ name := [90, 65, 68, 68], arity := (-4), is := [119, 103], keys := [49, 32, 49, 32, 49] } : table.row), ({ name := [90, 82, 69, 77], arity := (-3), is := [119], keys := [49, 32, 49, 32, 49] } : table.row), ({ name := [90, 83, 67, 79, 82, 69], arity := 3, is := ([] : List UInt8), keys := [49, 32, 49, 32, 49] } : table.row), ({ name := [90, 77, 83, 67, 79, 82, 69], arity := (-3), is := ([] : List UInt8), keys := [49, 32, 49, 32, 49] } : table.row), ({ name := [90, 73, 78, 67, 82, 66, 89], arity := 4, is := [119, 103], keys := [49, 32, 49, 32, 49] } : table.row), ({ name := [90, 67, 65, 82, 68], arity := 2, is := ([] : List UInt8), keys := [49, 32, 49, 32, 49] } : table.row), ({ name := [90, 67, 79, 85, 78, 84], arity := 4, is := ([] : List UInt8), keys := [49, 32, 49, 32, 49] } : table.row), ({ name := [90, 82, 65, 78, 75], arity := 3, is := ([] : List UInt8), keys := [49, 32, 49, 32, 49] } : table.row), ({ name := [90, 82, 69, 86, 82, 65, 78, 75], arity := 3, is := ([] : List UInt8), keys := [49, 32, 49, 32, 49] } : table.row), ({ name := [90, 82, 65, 78, 71, 69], arity := (-4), is := ([] : List UInt8), keys := [49, 32, 49, 32, 49] } : table.row), ({ name := [90, 82, 69, 86, 82, 65, 78, 71, 69], arity := (-4), is := ([] : List UInt8), keys := [49, 32, 49, 32, 49] } : table.row), ({ name := [90, 82, 65, 78, 71, 69, 66, 89, 83, 67, 79, 82, 69], arity := (-4), is := ([] : List UInt8), keys := [49, 32, 49, 32, 49] } : table.row), ({ name := [90, 82, 69, 86, 82, 65, 78, 71, 69, 66, 89, 83, 67, 79, 82, 69], arity := (-4), is := ([] : List UInt8), keys := [49, 32, 49, 32, 49] } : table.row), ({ name := [90, 82, 69, 77, 82, 65, 78, 71, 69, 66, 89, 82, 65, 78, 75], arity := 4, is := [119], keys := [49, 32, 49, 32, 49] } : table.row), ({ name := [90, 82, 69, 77, 82, 65, 78, 71, 69, 66, 89, 83, 67, 79, 82, 69], arity := 4, is := [119], keys := [49, 32, 49, 32, 49] } : table.row), ({ name := [90, 80, 79, 80, 77, 73, 78], arity := (-2), is := [119], keys := [49, 32, 49, 32, 49] } : table.row), ({ name := [90, 80, 79, 80, 77, 65, 88], arity := (-2), is := [119], keys := [49, 32, 49, 32, 49] } : table.row), ({ name := [90, 85, 78, 73, 79, 78, 83, 84, 79, 82, 69], arity := (-4), is := [119, 103], keys := [99, 111, 117, 110, 116, 101, 100, 32, 50] } : table.row), ({ name := [90, 73, 78, 84, 69, 82, 83, 84, 79, 82, 69], arity := (-4), is := [119, 103], keys := [99, 111, 117, 110, 116, 101, 100, 32, 50] } : table.row), ({ name := [90, 83, 67, 65, 78], arity := (-3), is := ([] : List UInt8), keys := [49, 32, 49, 32, 49] } : table.row)]

def table.rows6  : Option (List table.row) :=
 some [({ name := [68, 69, 76], arity := (-2), is := [119], keys := [49, 32, 45, 49, 32, 49] } : table.row), ({ name := [85, 78, 76, 73, 78, 75], arity := (-2), is := [119], keys := [49, 32, 45, 49, 32, 49] } : table.row), ({ name := [69, 88, 73, 83, 84, 83], arity := (-2), is := ([] : List UInt8), keys := [49, 32, 45, 49, 32, 49] } : table.row), ({ name := [84, 89, 80, 69], arity := 2, is := ([] : List UInt8), keys := [49, 32, 49, 32, 49] } : table.row), ({ name := [84, 79, 85, 67, 72], arity := (-2), is := ([] : List UInt8), keys := [49, 32, 45, 49, 32, 49] } : table.row), ({ name := [69, 88, 80, 73, 82, 69], arity := 3, is := [119, 103], keys := [49, 32, 49, 32, 49] } : table.row), ({ name := [80, 69, 88, 80, 73, 82, 69], arity := 3, is := [119, 103], keys := [49, 32, 49, 32, 49] } : table.row), ({ name := [69, 88, 80, 73, 82, 69, 65, 84], arity := 3, is := [119, 103], keys := [49, 32, 49, 32, 49] } : table.row), ({ name := [80, 69, 88, 80, 73, 82, 69, 65, 84], arity := 3, is := [119, 103], keys := [49, 32, 49, 32, 49] } : table.row), ({ name := [84, 84, 76], arity := 2, is := ([] : List UInt8), keys := [49, 32, 49, 32, 49] } : table.row), ({ name := [80, 84, 84, 76], arity := 2, is := ([] : List UInt8), keys := [49, 32, 49, 32, 49] } : table.row), ({ name := [69, 88, 80, 73, 82, 69, 84, 73, 77, 69], arity := 2, is := ([] : List UInt8), keys := [49, 32, 49, 32, 49] } : table.row), ({ name := [80, 69, 88, 80, 73, 82, 69, 84, 73, 77, 69], arity := 2, is := ([] : List UInt8), keys := [49, 32, 49, 32, 49] } : table.row), ({ name := [80, 69, 82, 83, 73, 83, 84], arity := 2, is := [119], keys := [49, 32, 49, 32, 49] } : table.row), ({ name := [82, 69, 78, 65, 77, 69], arity := 3, is := [119, 103], keys := [49, 32, 50, 32, 49] } : table.row), ({ name := [82, 69, 78, 65, 77, 69, 78, 88], arity := 3, is := [119, 103], keys := [49, 32, 50, 32, 49] } : table.row), ({ name := [67, 79, 80, 89], arity := (-3), is := [119, 103], keys := [49, 32, 50, 32, 49] } : table.row), ({ name := [75, 69, 89, 83], arity := 2, is := ([] : List UInt8), keys := ([] : List UInt8) } : table.row), ({ name := [83, 67, 65, 78], arity := (-2), is := ([] : List UInt8), keys := ([] : List UInt8) } : table.row), ({ name := [68, 66, 83, 73, 90, 69], arity := 1, is := ([] : List UInt8), keys := ([] : List UInt8) } : table.row), ({ name := [70, 76, 85, 83, 72, 65, 76, 76], arity := 1, is := [119], keys := ([] : List UInt8) } : table.row), ({ name := [69, 67, 72, 79], arity := 2, is := ([] : List UInt8), keys := ([] : List UInt8) } : table.row)]

def table.rows7  : Option (List table.row) :=
 some [({ name := [80, 73, 78, 71], arity := (-1), is := [102], keys := ([] : List UInt8) } : table.row), ({ name := [65, 85, 84, 72], arity := 2, is := [102], keys := ([] : List UInt8) } : table.row), ({ name := [81, 85, 73, 84], arity := 1, is := [102], keys := ([] : List UInt8) } : table.row), ({ name := [77, 85, 76, 84, 73], arity := 1, is := ([] : List UInt8), keys := ([] : List UInt8) } : table.row), ({ name := [69, 88, 69, 67], arity := 1, is := ([] : List UInt8), keys := ([] : List UInt8) } : table.row), ({ name := [68, 73, 83, 67, 65, 82, 68], arity := 1, is := ([] : List UInt8), keys := ([] : List UInt8) } : table.row), ({ name := [87, 65, 84, 67, 72], arity := (-2), is := ([] : List UInt8), keys := [49, 32, 45, 49, 32, 49] } : table.row), ({ name := [85, 78, 87, 65, 84, 67, 72], arity := 1, is := ([] : List UInt8), keys := ([] : List UInt8) } : table.row), ({ name := [66, 76, 80, 79, 80], arity := (-3), is := [119], keys := [49, 32, 45, 50, 32, 49] } : table.row), ({ name := [66, 82, 80, 79, 80], arity := (-3), is := [119], keys := [49, 32, 45, 50, 32, 49] } : table.row), ({ name := [66, 76, 77, 79, 86, 69], arity := 6, is := [119, 103], keys := [49, 32, 50, 32, 49] } : table.row), ({ name := [83, 85, 66, 83, 67, 82, 73, 66, 69], arity := (-2), is := [102], keys := ([] : List UInt8) } : table.row), ({ name := [85, 78, 83, 85, 66, 83, 67, 82, 73, 66, 69], arity := (-1), is := [102], keys := ([] : List UInt8) } : table.row), ({ name := [80, 83, 85, 66, 83, 67, 82, 73, 66, 69], arity := (-2), is := [102], keys := ([] : List UInt8) } : table.row), ({ name := [80, 85, 78, 83, 85, 66, 83, 67, 82, 73, 66, 69], arity := (-1), is := [102], keys := ([] : List UInt8) } : table.row), ({ name := [80, 85, 66, 76, 73, 83, 72], arity := 3, is := ([] : List UInt8), keys := ([] : List UInt8) } : table.row), ({ name := [66, 71, 82, 69, 87, 82, 73, 84, 69, 65, 79, 70], arity := 1, is := ([] : List UInt8), keys := ([] : List UInt8) } : table.row), ({ name := [73, 78, 70, 79], arity := 1, is := ([] : List UInt8), keys := ([] : List UInt8) } : table.row)]

def table.rows (of : Int) : Option (List table.row) :=
 if of = 1 then
  (table.rows1).bind fun r14 =>
  some r14
 else
  if of = 2 then
   (table.rows2).bind fun r15 =>
   some r15
  else
   if of = 3 then
    (table.rows3).bind fun r16 =>
    some r16
   else
    if of = 4 then
     (table.rows4).bind fun r17 =>
     some r17
    else
     if of = 5 then
      (table.rows5).bind fun r18 =>
      some r18
     else
      if of = 6 then
       (table.rows6).bind fun r19 =>
       some r19
      else
       (table.rows7).bind fun r20 =>
       some r20

def strings.Contains (a : List UInt8) (b : List UInt8) : Option Bool :=
 need (b.length = 1) <|
 some (decide (0 ≤ Go.Lib.indexByte a (b.headD 0)))

def strings.Fields (a : List UInt8) : Option (List (List UInt8)) :=
 need (a.length < 4294967281 ∧ (∀ b, b ∈ a → b.toNat < 128) ∧ (Go.Lib.fields a).length ≤ maxLen) <|
 some (Go.Lib.fields a)

structure num.Parse.S0 where
 n : Int
 t42 : Int

def num.Parse.body0 (s120 : List UInt8) (s194 : num.Parse.S0) : Option (num.Parse.S0 ⊕ (Int ⊕ (Int × Bool))) :=
 if s194.t42 < (s120.length : Int) then
  need (InB s194.t42 s120.length) <|
  letO (
   if (bix s120 s194.t42) < 48 then
    true
   else
    decide (57 < (bix s120 s194.t42))) fun s200 =>
  if s200 = true then
   some (.inr (.inr (0, false)))
  else
   letO (IntKind.wrap .u64 ((IntKind.wrap .u64 (s194.n * 10)) + (IntKind.wrap .u64 (IntKind.wrap .u8 ((bix s120 s194.t42) - 48))))) fun x204 =>
   some (.inl ⟨x204, IntKind.wrap .i64 (s194.t42 + 1)⟩)
 else
  some (.inr (.inl s194.n))

def num.Parse.loop0 (s120 : List UInt8) (s194 : num.Parse.S0) : Option (Int ⊕ (Int × Bool)) := whileO (num.Parse.body0 s120) s194

def num.Parse (s_ : List UInt8) : Option (Int × Bool) :=
 (
  if s_ = ([] : List UInt8) then
   some false
  else
   need (InB 0 s_.length) <|
   some (decide ((bix s_ 0) = 45))).bind fun s113 =>
 (
  if s113 = true then
   need (InR 1 (s_.length : Int) s_.length) <|
   some (sub s_ 1 (s_.length : Int))
  else
   some s_).bind fun s120 =>
 (
  if s120 = ([] : List UInt8) then
   some true
  else
   if 19 < (s120.length : Int) then
    some true
   else
    need (InB 0 s120.length) <|
    if (bix s120 0) = 48 then
     if s113 = true then
      some true
     else
      some (decide (1 < (s120.length : Int)))
    else
     some false).bind fun s130 =>
 if s130 = true then
  some (0, false)
 else
  (num.Parse.loop0 s120 ⟨0, 0⟩).bind fun s219 => onSum s219 (fun s171 =>
   letO (
    if s113 = true then
     decide (s171 ≤ 9223372036854775808)
    else
     false) fun s208 =>
   if s208 = true then
    some (IntKind.wrap .i64 (0 - (IntKind.wrap .i64 s171)), true)
   else
    letO (
     if s113 = true then
      true
     else
      decide (9223372036854775808 ≤ s171)) fun s213 =>
    if s213 = true then
     some (0, false)
    else
     some (IntKind.wrap .i64 s171, true)) fun s219x => some s219x

def table.command (of : Int) (r_ : table.row) : Option api.Command :=
 (strings.Contains r_.is [119]).bind fun r32 =>
 (strings.Contains r_.is [103]).bind fun r33 =>
 (strings.Contains r_.is [102]).bind fun r34 =>
 (
  if r_.keys = ([] : List UInt8) then
   some (0, 0, 0, 0)
  else
   if r_.keys = [99, 111, 117, 110, 116, 101, 100, 32, 50] then
    some (2, 0, 0, 0)
   else
    if r_.keys = [99, 111, 117, 110, 116, 101, 100, 32, 49] then
     some (3, 0, 0, 0)
    else
     (strings.Fields r_.keys).bind fun r49 =>
     need (InB 0 r49.length) <|
     (num.Parse (ix r49 0)).bind fun r51 =>
     need (InB 1 r49.length) <|
     (num.Parse (ix r49 1)).bind fun r53 =>
     need (InB 2 r49.length) <|
     (num.Parse (ix r49 2)).bind fun r55 =>
     some (1, r51.1, r53.1, r55.1)).bind fun s46 =>
 some ({ Name := r_.name, Arity := r_.arity, Of := of, Write := r32, Grow := r33, Free := r34, Keys := s46.1, First := s46.2.1, Last := s46.2.2.1, Step := s46.2.2.2 } : api.Command)

structure table.Find.S0 where
 of : Int

structure table.Find.S2 where
 t16 : Int

def table.Find.body2 (r600 : List table.row) (r314 : List UInt8) (s571 : table.Find.S0) (s613 : table.Find.S2) : Option (table.Find.S2 ⊕ (Unit ⊕ (table.Find.S0 ⊕ (Unit ⊕ (api.Command × Bool))))) :=
 if s613.t16 < (r600.length : Int) then
  need (InB s613.t16 r600.length) <|
  if (ix r600 s613.t16).name = r314 then
   (table.command s571.of (ix r600 s613.t16)).bind fun r619 =>
   some (.inr (.inr (.inr (.inr (r619, true)))))
  else
   some (.inl ⟨IntKind.wrap .i64 (s613.t16 + 1)⟩)
 else
  some (.inr (.inl ()))

def table.Find.loop2 (r600 : List table.row) (r314 : List UInt8) (s571 : table.Find.S0) (s613 : table.Find.S2) : Option (Unit ⊕ (table.Find.S0 ⊕ (Unit ⊕ (api.Command × Bool)))) := whileO (table.Find.body2 r600 r314 s571) s613

def table.Find.body0 (r314 : List UInt8) (s571 : table.Find.S0) : Option (table.Find.S0 ⊕ (Unit ⊕ (api.Command × Bool))) :=
 if s571.of ≤ 7 then
  (
   (table.rows s571.of).bind fun r600 =>
   table.Find.loop2 r600 r314 s571 ⟨0⟩).bind fun s622 => onSum s622 (fun s597 =>
   some (.inl ⟨IntKind.wrap .i64 (s571.of + 1)⟩)) fun s622x => some s622x
 else
  some (.inr (.inl ()))

def table.Find.loop0 (r314 : List UInt8) (s571 : table.Find.S0) : Option (Unit ⊕ (api.Command × Bool)) := whileO (table.Find.body0 r314) s571

def table.Find (name : List UInt8) : Option (api.Command × Bool) :=
 (table.Upper name).bind fun r314 =>
 (table.Find.loop0 r314 ⟨1⟩).bind fun s624 => onSum s624 (fun s468 =>
  some (({ Name := ([] : List UInt8), Arity := 0, Of := 0, Write := false, Grow := false, Free := false, Keys := 0, First := 0, Last := 0, Step := 0 } : api.Command), false)) fun s624x => some s624x

def table.Fits (c_ : api.Command) (n_ : Int) : Option Bool :=
 if c_.Arity < 0 then
  letO (
   if 0 ≤ n_ then
    decide ((IntKind.wrap .i64 (0 - n_)) ≤ c_.Arity)
   else
    false) fun s10 =>
  some s10
 else
  some (decide (n_ = c_.Arity))

def table.places (c_ : api.Command) (n_ : Int) : Option (api.Command × Int) :=
 some (c_, n_)

def table.places_1 (first : Int) (last : Int) (step : Int) (n : Int) : Option (List Int) := fixO fun k => placesL (if last < 0 then IntKind.wrap .i64 (last + n) else last) step k first

def table.counted (args : List (List UInt8)) (at_ : Int) : Option (Int × Bool) :=
 need (InB at_ args.length) <|
 (num.Parse (ix args at_)).bind fun r11 =>
 letO (
  if r11.2 = true then
   if 1 ≤ r11.1 then
    decide (r11.1 ≤ (IntKind.wrap .i64 ((IntKind.wrap .i64 ((args.length : Int) - at_)) - 1)))
   else
    false
  else
   false) fun s14 =>
 some (r11.1, s14)

structure table.Keys.S1 where
 c : List (List UInt8)

def table.Keys.body1 (args : List (List UInt8)) (s209 : table.Keys.S1) (x211 : Int) : Option table.Keys.S1 :=
 need (InB x211 args.length) <|
 need ((s209.c.length + [ix args x211].length) * 16 ≤ 140737488355328) <|
 some ⟨s209.c ++ [ix args x211]⟩

def table.Keys.each1 (args : List (List UInt8)) (xs : List Int) (s209 : table.Keys.S1) : Option table.Keys.S1 := eachO (table.Keys.body1 args) xs s209

def table.Keys (args : List (List UInt8)) : Option ((List (List UInt8)) × Bool) :=
 if (args.length : Int) = 0 then
  some (([] : List (List UInt8)), false)
 else
  need (InB 0 args.length) <|
  (table.Find (ix args 0)).bind fun r128 =>
  (
   if (!r128.2) = true then
    some true
   else
    (table.Fits r128.1 (args.length : Int)).bind fun r136 =>
    some (!r136)).bind fun s132 =>
  if s132 = true then
   some (([] : List (List UInt8)), false)
  else
   (
    if r128.1.Keys = 1 then
     (table.places r128.1 (args.length : Int)).bind fun r195 =>
     (table.places_1 r195.1.First r195.1.Last r195.1.Step r195.2).bind fun r217 =>
     (table.Keys.each1 args r217 ⟨([] : List (List UInt8))⟩).bind fun s218 =>
     some (.inl s218.c)
    else
     letO (
      if r128.1.Keys = 2 then
       decide (r128.1.Keys = 2)
      else
       decide (r128.1.Keys = 3)) fun s223 =>
     if s223 = true then
      (
       if r128.1.Keys = 2 then
        need (InB 1 args.length) <|
        need ((([] : List (List UInt8)).length + [ix args 1].length) * 16 ≤ 140737488355328) <|
        some (2, ([] : List (List UInt8)) ++ [ix args 1])
       else
        some (1, ([] : List (List UInt8)))).bind fun s231 =>
      (table.counted args s231.1).bind fun r240 =>
      if (!r240.2) = true then
       some (.inr (([] : List (List UInt8)), false))
      else
       need (InR (IntKind.wrap .i64 (s231.1 + 1)) (IntKind.wrap .i64 ((IntKind.wrap .i64 (s231.1 + 1)) + r240.1)) args.length) <|
       need ((s231.2.length + (sub args (IntKind.wrap .i64 (s231.1 + 1)) (IntKind.wrap .i64 ((IntKind.wrap .i64 (s231.1 + 1)) + r240.1))).length) * 16 ≤ 140737488355328) <|
       some (.inl (s231.2 ++ (sub args (IntKind.wrap .i64 (s231.1 + 1)) (IntKind.wrap .i64 ((IntKind.wrap .i64 (s231.1 + 1)) + r240.1)))))
     else
      some (.inl ([] : List (List UInt8)))).bind fun s249 => onSum s249 (fun s191 =>
    some (s191, true)) fun s249x => some s249x

structure mewsref02.Same.S0 where
 i : Int

def mewsref02.Same.body0 (a : List (List UInt8)) (b : List (List UInt8)) (s73 : mewsref02.Same.S0) : Option (mewsref02.Same.S0 ⊕ (Unit ⊕ Bool)) :=
 if s73.i < (a.length : Int) then
  need (InB s73.i a.length) <|
  need (InB s73.i b.length) <|
  if (ix a s73.i) = (ix b s73.i) then
   some (.inl ⟨IntKind.wrap .i64 (s73.i + 1)⟩)
  else
   some (.inr (.inr false))
 else
  some (.inr (.inl ()))

def mewsref02.Same.loop0 (a : List (List UInt8)) (b : List (List UInt8)) (s73 : mewsref02.Same.S0) : Option (Unit ⊕ Bool) := whileO (mewsref02.Same.body0 a b) s73

def mewsref02.Same (a : List (List UInt8)) (b : List (List UInt8)) : Option Bool :=
 if (a.length : Int) = (b.length : Int) then
  (mewsref02.Same.loop0 a b ⟨0⟩).bind fun s81 => onSum s81 (fun s60 =>
   some true) fun s81x => some s81x
 else
  some false

def mewslaw28.alive  : Option Bool :=
 (table.Keys [[109, 115, 101, 116], [97], [49], [98], [50]]).bind fun r22 =>
 (table.Keys [[90, 85, 78, 73, 79, 78, 83, 84, 79, 82, 69], [100], [50], [120], [121], [87, 69, 73, 71, 72, 84, 83], [49], [50]]).bind fun r24 =>
 (
  (mewsref02.Same r22.1 [[97], [98]]).bind fun r36 =>
  if r36 = true then
   if r22.2 = true then
    (mewsref02.Same r24.1 [[100], [120], [121]]).bind fun r39 =>
    if r39 = true then
     if r24.2 = true then
      (table.Upper [97, 90, 45, 195, 169]).bind fun r42 =>
      some (decide (r42 = [65, 90, 45, 195, 169]))
     else
      some false
    else
     some false
   else
    some false
  else
   some false).bind fun s33 =>
 some s33

structure mewsref28.Upper.S0 where
 out : List UInt8
 i : Int

structure mewsref28.Upper.S2 where
 c : List UInt8
 k : Int

def mewsref28.Upper.body2 (s1017 : mewsref28.Upper.S0) (s_ : List UInt8) (s1093 : mewsref28.Upper.S2) : Option (mewsref28.Upper.S2 ⊕ (List UInt8)) :=
 if s1093.k < 26 then
  (
   need (InB s1017.i s_.length) <|
   need (InB s1093.k [97, 98, 99, 100, 101, 102, 103, 104, 105, 106, 107, 108, 109, 110, 111, 112, 113, 114, 115, 116, 117, 118, 119, 120, 121, 122].length) <|
   if (bix s_ s1017.i) = (bix [97, 98, 99, 100, 101, 102, 103, 104, 105, 106, 107, 108, 109, 110, 111, 112, 113, 114, 115, 116, 117, 118, 119, 120, 121, 122] s1093.k) then
    need (InR s1093.k (IntKind.wrap .i64 (s1093.k + 1)) [65, 66, 67, 68, 69, 70, 71, 72, 73, 74, 75, 76, 77, 78, 79, 80, 81, 82, 83, 84, 85, 86, 87, 88, 89, 90].length) <|
    some (sub [65, 66, 67, 68, 69, 70, 71, 72, 73, 74, 75, 76, 77, 78, 79, 80, 81, 82, 83, 84, 85, 86, 87, 88, 89, 90] s1093.k (IntKind.wrap .i64 (s1093.k + 1)))
   else
    some s1093.c).bind fun s1101 =>
  some (.inl ⟨s1101, IntKind.wrap .i64 (s1093.k + 1)⟩)
 else
  some (.inr s1093.c)

def mewsref28.Upper.loop2 (s1017 : mewsref28.Upper.S0) (s_ : List UInt8) (s1093 : mewsref28.Upper.S2) : Option (List UInt8) := whileO (mewsref28.Upper.body2 s1017 s_) s1093

def mewsref28.Upper.body0 (s_ : List UInt8) (s1017 : mewsref28.Upper.S0) : Option (mewsref28.Upper.S0 ⊕ (List UInt8)) :=
 if s1017.i < (s_.length : Int) then
  need (InR s1017.i (IntKind.wrap .i64 (s1017.i + 1)) s_.length) <|
  (mewsref28.Upper.loop2 s1017 s_ ⟨sub s_ s1017.i (IntKind.wrap .i64 (s1017.i + 1)), 0⟩).bind fun s1064 =>
  need (s1017.out.length + s1064.length ≤ 9223372036854775807) <|
  some (.inl ⟨s1017.out ++ s1064, IntKind.wrap .i64 (s1017.i + 1)⟩)
 else
  some (.inr s1017.out)

def mewsref28.Upper.loop0 (s_ : List UInt8) (s1017 : mewsref28.Upper.S0) : Option (List UInt8) := whileO (mewsref28.Upper.body0 s_) s1017

def mewsref28.Upper (s_ : List UInt8) : Option (List UInt8) :=
 (mewsref28.Upper.loop0 s_ ⟨([] : List UInt8), 0⟩).bind fun s832 =>
 some s832

structure mewsref28.split.S0 where
 out : List (List UInt8)
 now : List UInt8
 i : Int

def mewsref28.split.body0 (s_ : List UInt8) (by_ : Int) (s232 : mewsref28.split.S0) : Option (mewsref28.split.S0 ⊕ ((List (List UInt8)) × (List UInt8))) :=
 if s232.i < (s_.length : Int) then
  (
   need (InB s232.i s_.length) <|
   if (bix s_ s232.i) = by_ then
    need ((s232.out.length + [s232.now].length) * 16 ≤ 140737488355328) <|
    some (s232.out ++ [s232.now], ([] : List UInt8))
   else
    need (InR s232.i (IntKind.wrap .i64 (s232.i + 1)) s_.length) <|
    need (s232.now.length + (sub s_ s232.i (IntKind.wrap .i64 (s232.i + 1))).length ≤ 9223372036854775807) <|
    some (s232.out, s232.now ++ (sub s_ s232.i (IntKind.wrap .i64 (s232.i + 1))))).bind fun s243 =>
  some (.inl ⟨s243.1, s243.2, IntKind.wrap .i64 (s232.i + 1)⟩)
 else
  some (.inr (s232.out, s232.now))

def mewsref28.split.loop0 (s_ : List UInt8) (by_ : Int) (s232 : mewsref28.split.S0) : Option ((List (List UInt8)) × (List UInt8)) := whileO (mewsref28.split.body0 s_ by_) s232

def mewsref28.split (s_ : List UInt8) (by_ : Int) : Option (List (List UInt8)) :=
 (mewsref28.split.loop0 s_ by_ ⟨([] : List (List UInt8)), ([] : List UInt8), 0⟩).bind fun s190 =>
 need ((s190.1.length + [s190.2].length) * 16 ≤ 140737488355328) <|
 some (s190.1 ++ [s190.2])

def mewsref01.digits.rec : Nat → Int → Option (List UInt8)
 | 0, _ => none
 | kk + 1, n_ =>
  if (-10) < n_ then
   need (InR (IntKind.wrap .i64 (0 - (n_.tmod 10))) (IntKind.wrap .i64 ((IntKind.wrap .i64 (0 - (n_.tmod 10))) + 1)) [48, 49, 50, 51, 52, 53, 54, 55, 56, 57].length) <|
   letO (sub [48, 49, 50, 51, 52, 53, 54, 55, 56, 57] (IntKind.wrap .i64 (0 - (n_.tmod 10))) (IntKind.wrap .i64 ((IntKind.wrap .i64 (0 - (n_.tmod 10))) + 1))) fun x9 =>
   some x9
  else
   (mewsref01.digits.rec kk (IntKind.wrap .i64 (n_.tdiv 10))).bind fun r10 =>
   need (InR (IntKind.wrap .i64 (0 - (n_.tmod 10))) (IntKind.wrap .i64 ((IntKind.wrap .i64 (0 - (n_.tmod 10))) + 1)) [48, 49, 50, 51, 52, 53, 54, 55, 56, 57].length) <|
   letO (sub [48, 49, 50, 51, 52, 53, 54, 55, 56, 57] (IntKind.wrap .i64 (0 - (n_.tmod 10))) (IntKind.wrap .i64 ((IntKind.wrap .i64 (0 - (n_.tmod 10))) + 1))) fun x12 =>
   need (r10.length + x12.length ≤ 9223372036854775807) <|
   some (r10 ++ x12)

def mewsref01.digits (n_ : Int) : Option (List UInt8) := fixO fun kk => mewsref01.digits.rec kk n_

def mewsref01.Text (n_ : Int) : Option (List UInt8) :=
 if n_ < 0 then
  (mewsref01.digits n_).bind fun r5 =>
  need ([45].length + r5.length ≤ 9223372036854775807) <|
  some ([45] ++ r5)
 else
  (mewsref01.digits (IntKind.wrap .i64 (0 - n_))).bind fun r7 =>
  some r7

structure mewsref01.Parse.S0 where
 n : Int
 i : Int

def mewsref01.Parse.body0 (s_ : List UInt8) (s309 : Bool) (s550 : mewsref01.Parse.S0) : Option (mewsref01.Parse.S0 ⊕ (Int ⊕ (Int × Bool))) :=
 if s550.i < (s_.length : Int) then
  (
   letO (
    if s550.i = 0 then
     s309
    else
     false) fun s578 =>
   if s578 = true then
    some (.inl s550.n)
   else
    (
     need (InB s550.i s_.length) <|
     if (bix s_ s550.i) < 48 then
      some true
     else
      need (InB s550.i s_.length) <|
      some (decide (57 < (bix s_ s550.i)))).bind fun s585 =>
    if s585 = true then
     some (.inr (.inr (.inr (0, false))))
    else
     need (InB s550.i s_.length) <|
     letO (IntKind.wrap .i64 ((IntKind.wrap .i64 ((-9223372036854775808) + (IntKind.wrap .i64 (IntKind.wrap .u8 ((bix s_ s550.i) - 48))))).tdiv 10)) fun x592 =>
     if s550.n < x592 then
      some (.inr (.inr (.inr (0, false))))
     else
      letO (IntKind.wrap .i64 ((IntKind.wrap .i64 (s550.n * 10)) - (IntKind.wrap .i64 (IntKind.wrap .u8 ((bix s_ s550.i) - 48))))) fun x593 =>
      some (.inl x593)).bind fun s597 => onSum s597 (fun s574 =>
   some (.inl ⟨s574, IntKind.wrap .i64 (s550.i + 1)⟩)) fun s597x => some s597x
 else
  some (.inr (.inl s550.n))

def mewsref01.Parse.loop0 (s_ : List UInt8) (s309 : Bool) (s550 : mewsref01.Parse.S0) : Option (Int ⊕ (Int × Bool)) := whileO (mewsref01.Parse.body0 s_ s309) s550

def mewsref01.Parse (s_ : List UInt8) : Option (Int × Bool) :=
 (
  if 0 < (s_.length : Int) then
   need (InB 0 s_.length) <|
   some (decide ((bix s_ 0) = 45))
  else
   some false).bind fun s309 =>
 (mewsref01.Parse.loop0 s_ s309 ⟨0, 0⟩).bind fun s612 => onSum s612 (fun s455 =>
  letO (
   if (!s309) = true then
    decide (s455 = (-9223372036854775808))
   else
    false) fun s600 =>
  if s600 = true then
   some (0, false)
  else
   letO (
    if (!s309) = true then
     IntKind.wrap .i64 (0 - s455)
    else
     s455) fun s605 =>
   (mewsref01.Text s605).bind fun r609 =>
   if r609 = s_ then
    some (s605, true)
   else
    some (0, false)) fun s612x => some s612x

def mewsref28.number (s_ : List UInt8) : Option Int :=
 (mewsref01.Parse s_).bind fun r2 =>
 some r2.1

structure mewsref28.has.S0 where
 i : Int

def mewsref28.has.body0 (s_ : List UInt8) (c_ : Int) (s61 : mewsref28.has.S0) : Option (mewsref28.has.S0 ⊕ (Unit ⊕ Bool)) :=
 if s61.i < (s_.length : Int) then
  need (InB s61.i s_.length) <|
  if (bix s_ s61.i) = c_ then
   some (.inr (.inr true))
  else
   some (.inl ⟨IntKind.wrap .i64 (s61.i + 1)⟩)
 else
  some (.inr (.inl ()))

def mewsref28.has.loop0 (s_ : List UInt8) (c_ : Int) (s61 : mewsref28.has.S0) : Option (Unit ⊕ Bool) := whileO (mewsref28.has.body0 s_ c_) s61

def mewsref28.has (s_ : List UInt8) (c_ : Int) : Option Bool :=
 (mewsref28.has.loop0 s_ c_ ⟨0⟩).bind fun s68 => onSum s68 (fun s50 =>
  some false) fun s68x => some s68x

structure mewsref28.Commands.S0 where
 out : List api.Command
 i : Int

def mewsref28.Commands.body0 (r175 : List (List UInt8)) (s318 : mewsref28.Commands.S0) : Option (mewsref28.Commands.S0 ⊕ (List api.Command)) :=
 if s318.i < (r175.length : Int) then
  need (InB s318.i r175.length) <|
  (mewsref28.split (ix r175 s318.i) 32).bind fun r324 =>
  need (InB 0 r324.length) <|
  need (InB 1 r324.length) <|
  (mewsref28.number (ix r324 1)).bind fun r328 =>
  need (InB 2 r324.length) <|
  (mewsref28.number (ix r324 2)).bind fun r330 =>
  need (InB 3 r324.length) <|
  (mewsref28.has (ix r324 3) 119).bind fun r332 =>
  need (InB 3 r324.length) <|
  (mewsref28.has (ix r324 3) 103).bind fun r334 =>
  need (InB 3 r324.length) <|
  (mewsref28.has (ix r324 3) 102).bind fun r336 =>
  need (InB 4 r324.length) <|
  (mewsref28.number (ix r324 4)).bind fun r338 =>
  need (InB 5 r324.length) <|
  (mewsref28.number (ix r324 5)).bind fun r340 =>
  need (InB 6 r324.length) <|
  (mewsref28.number (ix r324 6)).bind fun r342 =>
  need (InB 7 r324.length) <|
  (mewsref28.number (ix r324 7)).bind fun r344 =>
  need ((s318.out.length + [({ Name := ix r324 0, Arity := r328, Of := r330, Write := r332, Grow := r334, Free := r336, Keys := r338, First := r340, Last := r342, Step := r344 } : api.Command)].length) * 72 ≤ 140737488355328) <|
  some (.inl ⟨s318.out ++ [({ Name := ix r324 0, Arity := r328, Of := r330, Write := r332, Grow := r334, Free := r336, Keys := r338, First := r340, Last := r342, Step := r344 } : api.Command)], IntKind.wrap .i64 (s318.i + 1)⟩)
 else
  some (.inr s318.out)

def mewsref28.Commands.loop0 (r175 : List (List UInt8)) (s318 : mewsref28.Commands.S0) : Option (List api.Command) := whileO (mewsref28.Commands.body0 r175) s318

def mewsref28.Commands  : Option (List api.Command) :=
 (mewsref28.split longS1 10).bind fun r175 =>
 (mewsref28.Commands.loop0 r175 ⟨([] : List api.Command), 0⟩).bind fun s261 =>
 some s261

structure mewsref28.Find.S0 where
 i : Int

def mewsref28.Find.body0 (r47 : List api.Command) (r46 : List UInt8) (s80 : mewsref28.Find.S0) : Option (mewsref28.Find.S0 ⊕ (Unit ⊕ (api.Command × Bool))) :=
 if s80.i < (r47.length : Int) then
  need (InB s80.i r47.length) <|
  if (ix r47 s80.i).Name = r46 then
   need (InB s80.i r47.length) <|
   some (.inr (.inr ((ix r47 s80.i), true)))
  else
   some (.inl ⟨IntKind.wrap .i64 (s80.i + 1)⟩)
 else
  some (.inr (.inl ()))

def mewsref28.Find.loop0 (r47 : List api.Command) (r46 : List UInt8) (s80 : mewsref28.Find.S0) : Option (Unit ⊕ (api.Command × Bool)) := whileO (mewsref28.Find.body0 r47 r46) s80

def mewsref28.Find (name : List UInt8) : Option (api.Command × Bool) :=
 (mewsref28.Upper name).bind fun r46 =>
 (mewsref28.Commands).bind fun r47 =>
 (mewsref28.Find.loop0 r47 r46 ⟨0⟩).bind fun s88 => onSum s88 (fun s67 =>
  some (({ Name := ([] : List UInt8), Arity := 0, Of := 0, Write := false, Grow := false, Free := false, Keys := 0, First := 0, Last := 0, Step := 0 } : api.Command), false)) fun s88x => some s88x

def mewsref28.Fits (c_ : api.Command) (n_ : Int) : Option Bool :=
 if 0 ≤ c_.Arity then
  some (decide (n_ = c_.Arity))
 else
  letO (
   if 0 ≤ n_ then
    decide (0 ≤ (IntKind.wrap .i64 (c_.Arity + n_)))
   else
    false) fun s10 =>
  some s10

def slices.Sort_string (x : List (List UInt8)) : Option (List (List UInt8)) :=
 need (x.length < 4611686018427387904) <|
 some (x.mergeSort fun a b => decide (a ≤ b))

structure table.All.S0 where
 of : Int
 v : List (List UInt8)

structure table.All.S2 where
 t12 : Int
 v : List (List UInt8)

def table.All.body2 (r664 : List table.row) (s678 : table.All.S2) : Option (table.All.S2 ⊕ (List (List UInt8))) :=
 if s678.t12 < (r664.length : Int) then
  need (InB s678.t12 r664.length) <|
  need ((s678.v.length + [(ix r664 s678.t12).name].length) * 16 ≤ 140737488355328) <|
  some (.inl ⟨IntKind.wrap .i64 (s678.t12 + 1), s678.v ++ [(ix r664 s678.t12).name]⟩)
 else
  some (.inr s678.v)

def table.All.loop2 (r664 : List table.row) (s678 : table.All.S2) : Option (List (List UInt8)) := whileO (table.All.body2 r664) s678

def table.All.body0  (s631 : table.All.S0) : Option (table.All.S0 ⊕ (List (List UInt8))) :=
 if s631.of ≤ 7 then
  (
   (table.rows s631.of).bind fun r664 =>
   table.All.loop2 r664 ⟨0, s631.v⟩).bind fun s660 =>
  some (.inl ⟨IntKind.wrap .i64 (s631.of + 1), s660⟩)
 else
  some (.inr s631.v)

def table.All.loop0  (s631 : table.All.S0) : Option (List (List UInt8)) := whileO (table.All.body0 ) s631

def table.All  : Option (List (List UInt8)) :=
 (table.All.loop0  ⟨1, ([] : List (List UInt8))⟩).bind fun s516 =>
 (slices.Sort_string s516).bind fun r690 =>
 some r690

structure mewslaw28.TableAll.S0 where
 t26 : Int

def mewslaw28.TableAll.body0 (r391 : List (List UInt8)) (s467 : mewslaw28.TableAll.S0) : Option (mewslaw28.TableAll.S0 ⊕ (Unit ⊕ Bool)) :=
 if s467.t26 < (r391.length : Int) then
  (
   if 0 < s467.t26 then
    need (InB (IntKind.wrap .i64 (s467.t26 - 1)) r391.length) <|
    need (InB s467.t26 r391.length) <|
    some (!strLt (ix r391 (IntKind.wrap .i64 (s467.t26 - 1))) (ix r391 s467.t26))
   else
    some false).bind fun s474 =>
  if s474 = true then
   some (.inr (.inr false))
  else
   some (.inl ⟨IntKind.wrap .i64 (s467.t26 + 1)⟩)
 else
  some (.inr (.inl ()))

def mewslaw28.TableAll.loop0 (r391 : List (List UInt8)) (s467 : mewslaw28.TableAll.S0) : Option (Unit ⊕ Bool) := whileO (mewslaw28.TableAll.body0 r391) s467

structure mewslaw28.TableAll.S2 where
 t68 : Int
 v : List UInt8

def mewslaw28.TableAll.body2 (turn : Int) (r391 : List (List UInt8)) (at_ : Int) (s712 : mewslaw28.TableAll.S2) : Option (mewslaw28.TableAll.S2 ⊕ (List UInt8)) :=
 if s712.t68 < ((IntKind.wrap .i64 ((IntKind.wrap .u64 turn).tmod (IntKind.wrap .u64 (IntKind.wrap .i64 (((ix r391 (IntKind.wrap .i64 ((IntKind.wrap .u64 at_).tmod (IntKind.wrap .u64 (r391.length : Int))))).length : Int) + 1))))) - 0) then
  (
   (
    need (InB s712.t68 s712.v.length) <|
    need (InB s712.t68 s712.v.length) <|
    if 65 ≤ ((ix s712.v s712.t68).toNat : Int) then
     need (InB s712.t68 s712.v.length) <|
     need (InB s712.t68 s712.v.length) <|
     some (decide (((ix s712.v s712.t68).toNat : Int) ≤ 90))
    else
     some false).bind fun s743 =>
   if s743 = true then
    need (InB s712.t68 s712.v.length) <|
    need (InB s712.t68 s712.v.length) <|
    need (InB s712.t68 s712.v.length) <|
    need (InB s712.t68 s712.v.length) <|
    need (IsU8 (IntKind.wrap .u8 (((ix s712.v s712.t68).toNat : Int) + 32))) <|
    some (upd s712.v s712.t68 (u8 (IntKind.wrap .u8 (((ix s712.v s712.t68).toNat : Int) + 32))))
   else
    some s712.v).bind fun s735 =>
  some (.inl ⟨IntKind.wrap .i64 (s712.t68 + 1), s735⟩)
 else
  some (.inr s712.v)

def mewslaw28.TableAll.loop2 (turn : Int) (r391 : List (List UInt8)) (at_ : Int) (s712 : mewslaw28.TableAll.S2) : Option (List UInt8) := whileO (mewslaw28.TableAll.body2 turn r391 at_) s712

def mewslaw28.TableAll (at_ : Int) (turn : Int) : Option Bool :=
 (table.All).bind fun r391 =>
 (
  (mewsref28.Commands).bind fun r398 =>
  if (r391.length : Int) = (r398.length : Int) then
   some (decide ((r391.length : Int) = 0))
  else
   some true).bind fun s395 =>
 if s395 = true then
  some false
 else
  (mewslaw28.TableAll.loop0 r391 ⟨0⟩).bind fun s779 => onSum s779 (fun s440 =>
   need (¬ (IntKind.wrap .u64 (r391.length : Int)) = 0) <|
   need (InB (IntKind.wrap .i64 ((IntKind.wrap .u64 at_).tmod (IntKind.wrap .u64 (r391.length : Int)))) r391.length) <|
   need ((ix r391 (IntKind.wrap .i64 ((IntKind.wrap .u64 at_).tmod (IntKind.wrap .u64 (r391.length : Int))))).length ≤ 140737488355328) <|
   need (¬ (IntKind.wrap .u64 (IntKind.wrap .i64 (((ix r391 (IntKind.wrap .i64 ((IntKind.wrap .u64 at_).tmod (IntKind.wrap .u64 (r391.length : Int))))).length : Int) + 1))) = 0) <|
   (
    need (InR 0 (IntKind.wrap .i64 ((IntKind.wrap .u64 turn).tmod (IntKind.wrap .u64 (IntKind.wrap .i64 (((ix r391 (IntKind.wrap .i64 ((IntKind.wrap .u64 at_).tmod (IntKind.wrap .u64 (r391.length : Int))))).length : Int) + 1))))) (ix r391 (IntKind.wrap .i64 ((IntKind.wrap .u64 at_).tmod (IntKind.wrap .u64 (r391.length : Int))))).length) <|
    need ((0 : Int) ≤ 0 ∧ 0 ≤ (IntKind.wrap .i64 ((IntKind.wrap .u64 turn).tmod (IntKind.wrap .u64 (IntKind.wrap .i64 (((ix r391 (IntKind.wrap .i64 ((IntKind.wrap .u64 at_).tmod (IntKind.wrap .u64 (r391.length : Int))))).length : Int) + 1)))))) <|
    mewslaw28.TableAll.loop2 turn r391 at_ ⟨0, ix r391 (IntKind.wrap .i64 ((IntKind.wrap .u64 at_).tmod (IntKind.wrap .u64 (r391.length : Int))))⟩).bind fun s621 =>
   (table.Find s621).bind fun r758 =>
   (
    if r758.2 = true then
     if r758.1.Name = (ix r391 (IntKind.wrap .i64 ((IntKind.wrap .u64 at_).tmod (IntKind.wrap .u64 (r391.length : Int))))) then
      if 1 ≤ r758.1.Of then
       if r758.1.Of ≤ 7 then
        if r758.1.Write = true then
         (mewslaw28.alive).bind fun r776 =>
         some r776
        else
         if (!r758.1.Grow) = true then
          (mewslaw28.alive).bind fun r778 =>
          some r778
         else
          some false
       else
        some false
      else
       some false
     else
      some false
    else
     some false).bind fun s768 =>
   some s768) fun s779x => some s779x

end Go.Pu
