/- Printed by lift.py: the functions over data. -/
import Derived.Test.YtlehodoiabaaaaaFQT
set_option maxRecDepth 100000
set_option maxHeartbeats 0
namespace Go.Pu
open Go.Lift

structure mewsref19.Size.S0 where
 n : Int
 i : Int

noncomputable def mewsref19.Size.body0 (v_ : api.Value) (s226 : mewsref19.Size.S0) : Option (mewsref19.Size.S0 ⊕ Int) :=
 letO (
  if s226.i < (v_.List_.length : Int) then
   decide (s226.n < 100000)
  else
   false) fun s231 =>
 if s231 = true then
  need (InB s226.i v_.List_.length) <|
  some (.inl ⟨IntKind.wrap .i64 (s226.n + (IntKind.wrap .i64 (1 + ((ix v_.List_ s226.i).length : Int)))), IntKind.wrap .i64 (s226.i + 1)⟩)
 else
  some (.inr s226.n)

noncomputable def mewsref19.Size.loop0 (v_ : api.Value) (s226 : mewsref19.Size.S0) : Option Int := whileO (mewsref19.Size.body0 v_) s226

structure mewsref19.Size.S2 where
 n : Int
 i : Int

noncomputable def mewsref19.Size.body2 (v_ : api.Value) (s288 : mewsref19.Size.S2) : Option (mewsref19.Size.S2 ⊕ Int) :=
 letO (
  if s288.i < (v_.Hash.length : Int) then
   decide (s288.n < 100000)
  else
   false) fun s293 =>
 if s293 = true then
  need (InB s288.i v_.Hash.length) <|
  need (InB s288.i v_.Hash.length) <|
  some (.inl ⟨IntKind.wrap .i64 (s288.n + (IntKind.wrap .i64 ((IntKind.wrap .i64 (1 + ((ix v_.Hash s288.i).Key.length : Int))) + ((ix v_.Hash s288.i).Val.length : Int)))), IntKind.wrap .i64 (s288.i + 1)⟩)
 else
  some (.inr s288.n)

noncomputable def mewsref19.Size.loop2 (v_ : api.Value) (s288 : mewsref19.Size.S2) : Option Int := whileO (mewsref19.Size.body2 v_) s288

structure mewsref19.Size.S4 where
 n : Int
 i : Int

noncomputable def mewsref19.Size.body4 (v_ : api.Value) (s346 : mewsref19.Size.S4) : Option (mewsref19.Size.S4 ⊕ Int) :=
 letO (
  if s346.i < (v_.ZSet.length : Int) then
   decide (s346.n < 100000)
  else
   false) fun s351 =>
 if s351 = true then
  need (InB s346.i v_.ZSet.length) <|
  some (.inl ⟨IntKind.wrap .i64 (s346.n + (IntKind.wrap .i64 (1 + ((ix v_.ZSet s346.i).Member.length : Int)))), IntKind.wrap .i64 (s346.i + 1)⟩)
 else
  some (.inr s346.n)

noncomputable def mewsref19.Size.loop4 (v_ : api.Value) (s346 : mewsref19.Size.S4) : Option Int := whileO (mewsref19.Size.body4 v_) s346

noncomputable def mewsref19.Size (v_ : api.Value) : Option Int :=
 (mewsref19.Size.loop0 v_ ⟨(v_.Text.length : Int), 0⟩).bind fun s207 =>
 (mewsref19.Size.loop2 v_ ⟨s207, 0⟩).bind fun s267 =>
 (mewsref19.Size.loop4 v_ ⟨s267, 0⟩).bind fun s327 =>
 some s327

structure mewslaw19.Far.S0 where
 n : Int
 t8 : Int

noncomputable def mewslaw19.Far.body0 (l : List api.Value) (s83 : mewslaw19.Far.S0) : Option (mewslaw19.Far.S0 ⊕ (Unit ⊕ Bool)) :=
 if s83.t8 < (l.length : Int) then
  need (InB s83.t8 l.length) <|
  (mewsref19.Size (ix l s83.t8)).bind fun r89 =>
  if 3000 < (IntKind.wrap .i64 (s83.n + r89)) then
   some (.inr (.inr true))
  else
   some (.inl ⟨IntKind.wrap .i64 (s83.n + r89), IntKind.wrap .i64 (s83.t8 + 1)⟩)
 else
  some (.inr (.inl ()))

noncomputable def mewslaw19.Far.loop0 (l : List api.Value) (s83 : mewslaw19.Far.S0) : Option (Unit ⊕ Bool) := whileO (mewslaw19.Far.body0 l) s83

noncomputable def mewslaw19.Far (l : List api.Value) : Option Bool :=
 (mewslaw19.Far.loop0 l ⟨0, 0⟩).bind fun s92 => onSum s92 (fun s68 =>
  some (decide (100 < (l.length : Int)))) fun s92x => some s92x

noncomputable def dict.empty_string (size : Int) (mem : Reg) : Option (dict.places_string × Reg) :=
 need ((0 : Int) ≤ size) <|
 need (Room (IntKind.wrap .i64 (1 * 2 ^ min (Int.toNat size) (IntKind.bits .i64))) 8) <|
 letO (mem ++ [List.replicate (Int.toNat (IntKind.wrap .i64 (1 * 2 ^ min (Int.toNat size) (IntKind.bits .i64)))) (.pt (none : RP))]) fun x8 =>
 some (({ size := size, l := (some (mem.length, 0, Int.toNat (IntKind.wrap .i64 (1 * 2 ^ min (Int.toNat size) (IntKind.bits .i64))), Int.toNat (IntKind.wrap .i64 (1 * 2 ^ min (Int.toNat size) (IntKind.bits .i64)))) : RS) } : dict.places_string), x8)

noncomputable def dict.New_string (seed : Int) (mem : Reg) : Option (RP × Reg) :=
 (dict.empty_string 2 mem).bind fun r3 =>
 letO (r3.2 ++ [[.it .u64 seed, .it .i64 r3.1.size, .sc r3.1.l, .it .i64 0, .sc (none : RS), .it .i64 0, .bo false, .it .i64 0]]) fun x4 =>
 some ((some (r3.2.length, 0) : RP), x4)

noncomputable def dict.Table_string.ready (t_ : RP) (mem : Reg) : Option (Bool × Reg) :=
 (
  (
   if t_.isSome = true then
    need (t_.isSome = true) <|
    need ((rpAdd t_ 1).isSome = true) <|
    need (InB 0 2) <|
    need ((rpAdd (rpAdd t_ 1) 0).isSome = true) <|
    (rLdL mem (rpAdd (rpAdd (rpAdd t_ 1) 0) 1)).bind fun r108 =>
    some r108.isNone
   else
    some false).bind fun s100 =>
  if s100 = true then
   need (t_.isSome = true) <|
   (rLdI .u64 mem (rpAdd t_ 0)).bind fun r110 =>
   (dict.New_string r110 mem).bind fun r111 =>
   need (r111.1.isSome = true) <|
   (rLdI .u64 r111.2 (rpAdd r111.1 0)).bind fun r113 =>
   (rLdI .i64 r111.2 (rpAdd r111.1 1)).bind fun r114 =>
   (rLdL r111.2 (rpAdd r111.1 2)).bind fun r115 =>
   (rLdI .i64 r111.2 (rpAdd r111.1 3)).bind fun r116 =>
   (rLdL r111.2 (rpAdd r111.1 4)).bind fun r117 =>
   (rLdI .i64 r111.2 (rpAdd r111.1 5)).bind fun r118 =>
   (rLdB r111.2 (rpAdd r111.1 6)).bind fun r119 =>
   (rLdI .i64 r111.2 (rpAdd r111.1 7)).bind fun r120 =>
   (rSto r111.2 t_ [.it .u64 r113, .it .i64 r114, .sc r115, .it .i64 r116, .sc r117, .it .i64 r118, .bo r119, .it .i64 r120]).bind fun r121 =>
   some r121
  else
   some mem).bind fun s91 =>
 some (t_.isSome, s91)

structure hash.Of.S0 where
 h : Int
 t13 : Int

noncomputable def hash.Of.body0 (s_ : List UInt8) (s86 : hash.Of.S0) : Option (hash.Of.S0 ⊕ Int) :=
 if s86.t13 < (s_.length : Int) then
  need (InB s86.t13 s_.length) <|
  some (.inl ⟨IntKind.wrap .u64 ((Go.bits .xor .u64 s86.h (IntKind.wrap .u64 (bix s_ s86.t13))) * 1099511628211), IntKind.wrap .i64 (s86.t13 + 1)⟩)
 else
  some (.inr s86.h)

noncomputable def hash.Of.loop0 (s_ : List UInt8) (s86 : hash.Of.S0) : Option Int := whileO (hash.Of.body0 s_) s86

structure hash.Of.S2 where
 h : Int
 t25 : Int

noncomputable def hash.Of.body2  (s118 : hash.Of.S2) : Option (hash.Of.S2 ⊕ Int) :=
 if s118.t25 < 3 then
  need (InB s118.t25 3) <|
  letO (IntKind.wrap .u64 ((Go.bits .xor .u64 s118.h (s118.h / 2 ^ min (Int.toNat 33) (IntKind.bits .u64))) * (ix ([18397679294719823053, 14181476777654086739, 1] : List Int) s118.t25))) fun x123 =>
  some (.inl ⟨x123, IntKind.wrap .i64 (s118.t25 + 1)⟩)
 else
  some (.inr s118.h)

noncomputable def hash.Of.loop2  (s118 : hash.Of.S2) : Option Int := whileO (hash.Of.body2 ) s118

noncomputable def hash.Of (seed : Int) (s_ : List UInt8) : Option Int :=
 (hash.Of.loop0 s_ ⟨Go.bits .xor .u64 14695981039346656037 seed, 0⟩).bind fun s76 =>
 (hash.Of.loop2  ⟨s76, 0⟩).bind fun s107 =>
 some s107

noncomputable def hash.size (b : Int) : Option Int :=
 some (if 16 < (if b < 0 then 0 else b) then 16 else (if b < 0 then 0 else b))

noncomputable def hash.low (n_ : Int) (b : Int) : Option Int :=
 (hash.size b).bind fun r3 =>
 need ((0 : Int) ≤ r3) <|
 some (Go.bits .and .u64 n_ (IntKind.wrap .u64 ((IntKind.wrap .u64 (1 * 2 ^ min (Int.toNat r3) (IntKind.bits .u64))) - 1)))

noncomputable def hash.Place (h_ : Int) (b : Int) : Option Int :=
 (hash.low h_ b).bind fun r2 =>
 some (IntKind.wrap .i64 r2)

noncomputable def dict.Table_string.slot (t_ : RP) (k_ : Int) (key : List UInt8) (mem : Reg) : Option RP :=
 need (t_.isSome = true) <|
 need ((rpAdd t_ 1).isSome = true) <|
 need (InB k_ 2) <|
 need ((rpAdd (rpAdd t_ 1) (Int.toNat k_ * 2)).isSome = true) <|
 (rLdL mem (rpAdd (rpAdd (rpAdd t_ 1) (Int.toNat k_ * 2)) 1)).bind fun r15 =>
 (rLdI .u64 mem (rpAdd t_ 0)).bind fun r16 =>
 (hash.Of r16 key).bind fun r17 =>
 (rLdI .i64 mem (rpAdd (rpAdd (rpAdd t_ 1) (Int.toNat k_ * 2)) 0)).bind fun r18 =>
 (hash.Place r17 r18).bind fun r19 =>
 need (InB r19 (rsLen r15)) <|
 some (rsPtr r15 r19 1)

noncomputable def dict.Table_string.front (t_ : RP) (k_ : Int) (x_ : RP) (mem : Reg) : Option Reg :=
 need (x_.isSome = true) <|
 (rLdS mem (rpAdd x_ 0)).bind fun r9 =>
 (dict.Table_string.slot t_ k_ r9 mem).bind fun r10 =>
 need (r10.isSome = true) <|
 (rLdP mem r10).bind fun r12 =>
 (rSto mem (rpAdd x_ 2) [.pt r12]).bind fun r13 =>
 (rSto r13 r10 [.pt x_]).bind fun r14 =>
 some r14

structure dict.Table_string.step.S0 where
 x : RP
 mem : Reg

noncomputable def dict.Table_string.step.body0 (t_ : RP) (s133 : dict.Table_string.step.S0) : Option (dict.Table_string.step.S0 ⊕ Reg) :=
 if s133.x.isSome = true then
  need (s133.x.isSome = true) <|
  (rLdP s133.mem (rpAdd s133.x 2)).bind fun r138 =>
  (dict.Table_string.front t_ 1 s133.x s133.mem).bind fun r139 =>
  some (.inl ⟨r138, r139⟩)
 else
  some (.inr s133.mem)

noncomputable def dict.Table_string.step.loop0 (t_ : RP) (s133 : dict.Table_string.step.S0) : Option Reg := whileO (dict.Table_string.step.body0 t_) s133

noncomputable def dict.Table_string.step (t_ : RP) (mem : Reg) : Option (Bool × Reg) :=
 need (t_.isSome = true) <|
 (rLdB mem (rpAdd t_ 6)).bind fun r89 =>
 if (!r89) = true then
  some (false, mem)
 else
  need ((rpAdd t_ 1).isSome = true) <|
  need (InB 0 2) <|
  need ((rpAdd (rpAdd t_ 1) 0).isSome = true) <|
  (rLdL mem (rpAdd (rpAdd (rpAdd t_ 1) 0) 1)).bind fun r93 =>
  (rLdI .i64 mem (rpAdd t_ 5)).bind fun r94 =>
  need (InB r94 (rsLen r93)) <|
  (rLdP mem (rsPtr r93 r94 1)).bind fun r96 =>
  need (InB 0 2) <|
  (rLdL mem (rpAdd (rpAdd (rpAdd t_ 1) 0) 1)).bind fun r98 =>
  (rLdI .i64 mem (rpAdd t_ 5)).bind fun r99 =>
  need (InB r99 (rsLen r98)) <|
  (rSto mem (rsPtr r98 r99 1) [.pt (none : RP)]).bind fun r101 =>
  (dict.Table_string.step.loop0 t_ ⟨r96, r101⟩).bind fun s120 =>
  (
   need (t_.isSome = true) <|
   (rLdI .i64 s120 (rpAdd t_ 5)).bind fun r160 =>
   (rSto s120 (rpAdd t_ 5) [.it .i64 (IntKind.wrap .i64 (r160 + 1))]).bind fun r161 =>
   (rLdI .i64 r161 (rpAdd t_ 5)).bind fun r162 =>
   need ((rpAdd t_ 1).isSome = true) <|
   need (InB 0 2) <|
   need ((rpAdd (rpAdd t_ 1) 0).isSome = true) <|
   (rLdL r161 (rpAdd (rpAdd (rpAdd t_ 1) 0) 1)).bind fun r166 =>
   if r162 = (rsLen r166 : Int) then
    need (InB 1 2) <|
    (rLdI .i64 r161 (rpAdd (rpAdd (rpAdd t_ 1) 2) 0)).bind fun r168 =>
    (rLdL r161 (rpAdd (rpAdd (rpAdd t_ 1) 2) 1)).bind fun r169 =>
    (rSto r161 (rpAdd t_ 1) [.it .i64 r168, .sc r169, .it .i64 0, .sc (none : RS)]).bind fun r170 =>
    (rSto r170 (rpAdd t_ 6) [.bo false]).bind fun r171 =>
    (rSto r171 (rpAdd t_ 5) [.it .i64 0]).bind fun r172 =>
    some r172
   else
    some r161).bind fun s156 =>
  some (true, s156)

structure dict.Table_string.find.S0 where
 t7 : Int

structure dict.Table_string.find.S2 where
 at_ : RP

noncomputable def dict.Table_string.find.body2 (mem : Reg) (key : List UInt8) (s1132 : dict.Table_string.find.S2) : Option (dict.Table_string.find.S2 ⊕ (Unit ⊕ (dict.Table_string.find.S0 ⊕ (Unit ⊕ RP)))) :=
 need (s1132.at_.isSome = true) <|
 (rLdP mem s1132.at_).bind fun r1137 =>
 if r1137.isSome = true then
  (rLdP mem s1132.at_).bind fun r1138 =>
  need (r1138.isSome = true) <|
  (rLdS mem (rpAdd r1138 0)).bind fun r1140 =>
  if r1140 = key then
   some (.inr (.inr (.inr (.inr s1132.at_))))
  else
   (rLdP mem s1132.at_).bind fun r1141 =>
   need (r1141.isSome = true) <|
   some (.inl ⟨rpAdd r1141 2⟩)
 else
  some (.inr (.inl ()))

noncomputable def dict.Table_string.find.loop2 (mem : Reg) (key : List UInt8) (s1132 : dict.Table_string.find.S2) : Option (Unit ⊕ (dict.Table_string.find.S0 ⊕ (Unit ⊕ RP))) := whileO (dict.Table_string.find.body2 mem key) s1132

noncomputable def dict.Table_string.find.body0 (t_ : RP) (mem : Reg) (key : List UInt8) (s1051 : dict.Table_string.find.S0) : Option (dict.Table_string.find.S0 ⊕ (Unit ⊕ RP)) :=
 if s1051.t7 < 2 then
  (
   (
    if s1051.t7 = 1 then
     need (t_.isSome = true) <|
     (rLdB mem (rpAdd t_ 6)).bind fun r1110 =>
     some (!r1110)
    else
     some false).bind fun s1105 =>
   if s1105 = true then
    some (.inr (.inr (.inl ())))
   else
    (dict.Table_string.slot t_ s1051.t7 key mem).bind fun r1111 =>
    dict.Table_string.find.loop2 mem key ⟨r1111⟩).bind fun s1146 => onSum s1146 (fun s1099 =>
   some (.inl ⟨IntKind.wrap .i64 (s1051.t7 + 1)⟩)) fun s1146x => some s1146x
 else
  some (.inr (.inl ()))

noncomputable def dict.Table_string.find.loop0 (t_ : RP) (mem : Reg) (key : List UInt8) (s1051 : dict.Table_string.find.S0) : Option (Unit ⊕ RP) := whileO (dict.Table_string.find.body0 t_ mem key) s1051

noncomputable def dict.Table_string.find (t_ : RP) (key : List UInt8) (mem : Reg) : Option RP :=
 (dict.Table_string.find.loop0 t_ mem key ⟨0⟩).bind fun s1148 => onSum s1148 (fun s860 =>
  some (none : RP)) fun s1148x => some s1148x

noncomputable def dict.Table_string.part (t_ : RP) (size : Int) (mem : Reg) : Option Reg :=
 (dict.empty_string size mem).bind fun r8 =>
 need (t_.isSome = true) <|
 need ((rpAdd t_ 1).isSome = true) <|
 need (InB 1 2) <|
 (rSto r8.2 (rpAdd (rpAdd t_ 1) 2) [.it .i64 r8.1.size, .sc r8.1.l]).bind fun r12 =>
 (rSto r12 (rpAdd t_ 6) [.bo true]).bind fun r13 =>
 (rSto r13 (rpAdd t_ 5) [.it .i64 0]).bind fun r14 =>
 some r14

noncomputable def dict.Table_string.Put (t_ : RP) (key : List UInt8) (v_ : List UInt8) (mem : Reg) : Option (Bool × Reg) :=
 (dict.Table_string.ready t_ mem).bind fun r63 =>
 if (!r63.1) = true then
  some (false, r63.2)
 else
  (dict.Table_string.step t_ r63.2).bind fun r64 =>
  (dict.Table_string.find t_ key r64.2).bind fun r65 =>
  if r65.isSome = true then
   need (r65.isSome = true) <|
   (rLdP r64.2 r65).bind fun r67 =>
   need (r67.isSome = true) <|
   (rSto r64.2 (rpAdd r67 1) [.tx v_]).bind fun r69 =>
   some (false, r69)
  else
   (
    need (t_.isSome = true) <|
    (rLdB r64.2 (rpAdd t_ 6)).bind fun r77 =>
    if r77 = true then
     some 1
    else
     some 0).bind fun s73 =>
   letO (r64.2 ++ [[.tx key, .tx v_, .pt (none : RP)]]) fun x79 =>
   (dict.Table_string.front t_ s73 (some (r64.2.length, 0) : RP) x79).bind fun r80 =>
   need (t_.isSome = true) <|
   (rLdI .i64 r80 (rpAdd t_ 7)).bind fun r82 =>
   (rSto r80 (rpAdd t_ 7) [.it .i64 (IntKind.wrap .i64 (r82 + 1))]).bind fun r83 =>
   (
    need ((rpAdd t_ 1).isSome = true) <|
    need (InB 0 2) <|
    (rLdI .i64 r83 (rpAdd (rpAdd (rpAdd t_ 1) 0) 0)).bind fun r107 =>
    (rLdL r83 (rpAdd (rpAdd (rpAdd t_ 1) 0) 1)).bind fun r108 =>
    (
     (rLdB r83 (rpAdd t_ 6)).bind fun r117 =>
     if (!r117) = true then
      (rLdI .i64 r83 (rpAdd t_ 7)).bind fun r119 =>
      if (rsLen r108 : Int) < r119 then
       some (decide (r107 < 16))
      else
       some false
     else
      some false).bind fun s114 =>
    if s114 = true then
     (dict.Table_string.part t_ (IntKind.wrap .i64 (r107 + 1)) r83).bind fun r121 =>
     some r121
    else
     some r83).bind fun s102 =>
   some (true, s102)

structure field.Put.S0 where
 n : Int
 t10 : Int
 mem : Reg

noncomputable def field.Put.body0 (fields : List api.Field) (t_ : RP) (s159 : field.Put.S0) : Option (field.Put.S0 ⊕ (Int × Reg)) :=
 if s159.t10 < (fields.length : Int) then
  (
   need (InB s159.t10 fields.length) <|
   (dict.Table_string.Put t_ (ix fields s159.t10).Key (ix fields s159.t10).Val s159.mem).bind fun r172 =>
   if r172.1 = true then
    some (IntKind.wrap .i64 (s159.n + 1), r172.2)
   else
    some (s159.n, r172.2)).bind fun s167 =>
  some (.inl ⟨s167.1, IntKind.wrap .i64 (s159.t10 + 1), s167.2⟩)
 else
  some (.inr (s159.n, s159.mem))

noncomputable def field.Put.loop0 (fields : List api.Field) (t_ : RP) (s159 : field.Put.S0) : Option (Int × Reg) := whileO (field.Put.body0 fields t_) s159

noncomputable def field.Put (t_ : RP) (fields : List api.Field) (mem : Reg) : Option (Int × Reg) :=
 (field.Put.loop0 fields t_ ⟨0, 0, mem⟩).bind fun s130 =>
 some (s130.1, s130.2)

structure dict.Table_string.Chain.S0 where
 out : List (List UInt8)
 x : RP

noncomputable def dict.Table_string.Chain.body0 (s105 : Bool × Reg) (s187 : dict.Table_string.Chain.S0) : Option (dict.Table_string.Chain.S0 ⊕ (List (List UInt8))) :=
 if s187.x.isSome = true then
  need (s187.x.isSome = true) <|
  (rLdS s105.2 (rpAdd s187.x 0)).bind fun r193 =>
  need ((s187.out.length + [r193].length) * 16 ≤ 140737488355328) <|
  (rLdP s105.2 (rpAdd s187.x 2)).bind fun r196 =>
  some (.inl ⟨s187.out ++ [r193], r196⟩)
 else
  some (.inr s187.out)

noncomputable def dict.Table_string.Chain.loop0 (s105 : Bool × Reg) (s187 : dict.Table_string.Chain.S0) : Option (List (List UInt8)) := whileO (dict.Table_string.Chain.body0 s105) s187

noncomputable def dict.Table_string.Chain (t_ : RP) (old : Bool) (place : Int) (mem : Reg) : Option ((List (List UInt8)) × Reg) :=
 (
  (dict.Table_string.ready t_ mem).bind fun r108 =>
  if (!r108.1) = true then
   some (true, r108.2)
  else
   if (!old) = true then
    need (t_.isSome = true) <|
    (rLdB r108.2 (rpAdd t_ 6)).bind fun r112 =>
    some ((!r112), r108.2)
   else
    some (false, r108.2)).bind fun s105 =>
 if s105.1 = true then
  some (([] : List (List UInt8)), s105.2)
 else
  need (t_.isSome = true) <|
  need ((rpAdd t_ 1).isSome = true) <|
  need (InB 0 2) <|
  (rLdI .i64 s105.2 (rpAdd (rpAdd (rpAdd t_ 1) 0) 0)).bind fun r117 =>
  (rLdL s105.2 (rpAdd (rpAdd (rpAdd t_ 1) 0) 1)).bind fun r118 =>
  (
   if (!old) = true then
    need (InB 1 2) <|
    (rLdI .i64 s105.2 (rpAdd (rpAdd (rpAdd t_ 1) 2) 0)).bind fun r128 =>
    (rLdL s105.2 (rpAdd (rpAdd (rpAdd t_ 1) 2) 1)).bind fun r129 =>
    some (r128, r129)
   else
    some (r117, r118)).bind fun s124 =>
  letO (
   if place < 0 then
    true
   else
    decide ((rsLen s124.2 : Int) ≤ place)) fun s132 =>
  if s132 = true then
   some (([] : List (List UInt8)), s105.2)
  else
   (
    need (InB place (rsLen s124.2)) <|
    (rLdP s105.2 (rsPtr s124.2 place 1)).bind fun r171 =>
    dict.Table_string.Chain.loop0 s105 ⟨([] : List (List UInt8)), r171⟩).bind fun s166 =>
   some (s166, s105.2)

structure dict.Table_string.Keys.S0 where
 t9 : Int
 mem : Reg
 v : List (List UInt8)

structure dict.Table_string.Keys.S2 where
 t20 : Int
 mem : Reg
 v : List (List UInt8)

noncomputable def dict.Table_string.Keys.body2 (r761 : RS) (t_ : RP) (s720 : dict.Table_string.Keys.S0) (s775 : dict.Table_string.Keys.S2) : Option (dict.Table_string.Keys.S2 ⊕ (Reg × (List (List UInt8)))) :=
 if s775.t20 < (rsLen r761 : Int) then
  (dict.Table_string.Chain t_ (decide (s720.t9 = 0)) s775.t20 s775.mem).bind fun r780 =>
  need ((s775.v.length + r780.1.length) * 16 ≤ 140737488355328) <|
  some (.inl ⟨IntKind.wrap .i64 (s775.t20 + 1), r780.2, s775.v ++ r780.1⟩)
 else
  some (.inr (s775.mem, s775.v))

noncomputable def dict.Table_string.Keys.loop2 (r761 : RS) (t_ : RP) (s720 : dict.Table_string.Keys.S0) (s775 : dict.Table_string.Keys.S2) : Option (Reg × (List (List UInt8))) := whileO (dict.Table_string.Keys.body2 r761 t_ s720) s775

noncomputable def dict.Table_string.Keys.body0 (t_ : RP) (s720 : dict.Table_string.Keys.S0) : Option (dict.Table_string.Keys.S0 ⊕ ((List (List UInt8)) × Reg)) :=
 if s720.t9 < 2 then
  (
   need (t_.isSome = true) <|
   need ((rpAdd t_ 1).isSome = true) <|
   need (InB s720.t9 2) <|
   need ((rpAdd (rpAdd t_ 1) (Int.toNat s720.t9 * 2)).isSome = true) <|
   (rLdL s720.mem (rpAdd (rpAdd (rpAdd t_ 1) (Int.toNat s720.t9 * 2)) 1)).bind fun r761 =>
   dict.Table_string.Keys.loop2 r761 t_ s720 ⟨0, s720.mem, s720.v⟩).bind fun s753 =>
  some (.inl ⟨IntKind.wrap .i64 (s720.t9 + 1), s753.1, s753.2⟩)
 else
  some (.inr (s720.v, s720.mem))

noncomputable def dict.Table_string.Keys.loop0 (t_ : RP) (s720 : dict.Table_string.Keys.S0) : Option ((List (List UInt8)) × Reg) := whileO (dict.Table_string.Keys.body0 t_) s720

noncomputable def dict.Table_string.Keys (t_ : RP) (mem : Reg) : Option ((List (List UInt8)) × Reg) :=
 if t_.isNone = true then
  some (([] : List (List UInt8)), mem)
 else
  (dict.Table_string.Keys.loop0 t_ ⟨0, mem, ([] : List (List UInt8))⟩).bind fun s589 =>
  some (s589.1, s589.2)

noncomputable def slices.Sort_string (x : List (List UInt8)) : Option (List (List UInt8)) :=
 need (x.length < 4611686018427387904) <|
 some (x.mergeSort fun a b => decide (a ≤ b))

noncomputable def dict.Table_string.Get (t_ : RP) (key : List UInt8) (mem : Reg) : Option ((List UInt8) × Bool) :=
 (
  (
   if t_.isSome = true then
    need (t_.isSome = true) <|
    (rLdI .i64 mem (rpAdd t_ 7)).bind fun r65 =>
    some (decide (0 < r65))
   else
    some false).bind fun s60 =>
  if s60 = true then
   (dict.Table_string.find t_ key mem).bind fun r66 =>
   if r66.isSome = true then
    need (r66.isSome = true) <|
    (rLdP mem r66).bind fun r68 =>
    need (r68.isSome = true) <|
    (rLdS mem (rpAdd r68 1)).bind fun r70 =>
    some (.inr (r70, true))
   else
    some (.inl ())
  else
   some (.inl ())).bind fun s74 => onSum s74 (fun s54 =>
  some (([] : List UInt8), false)) fun s74x => some s74x

structure field.Get.S0 where
 out : List api.Field
 t12 : Int

noncomputable def field.Get.body0 (keys : List (List UInt8)) (t_ : RP) (mem : Reg) (s208 : field.Get.S0) : Option (field.Get.S0 ⊕ (List api.Field)) :=
 if s208.t12 < (keys.length : Int) then
  (
   need (InB s208.t12 keys.length) <|
   (dict.Table_string.Get t_ (ix keys s208.t12) mem).bind fun r223 =>
   if r223.2 = true then
    need ((s208.out.length + [({ Key := ix keys s208.t12, Val := r223.1 } : api.Field)].length) * 32 ≤ 140737488355328) <|
    some (s208.out ++ [({ Key := ix keys s208.t12, Val := r223.1 } : api.Field)])
   else
    some s208.out).bind fun s218 =>
  some (.inl ⟨s218, IntKind.wrap .i64 (s208.t12 + 1)⟩)
 else
  some (.inr s208.out)

noncomputable def field.Get.loop0 (keys : List (List UInt8)) (t_ : RP) (mem : Reg) (s208 : field.Get.S0) : Option (List api.Field) := whileO (field.Get.body0 keys t_ mem) s208

noncomputable def field.Get (t_ : RP) (keys : List (List UInt8)) (mem : Reg) : Option (List api.Field) :=
 (field.Get.loop0 keys t_ mem ⟨([] : List api.Field), 0⟩).bind fun s170 =>
 some s170

noncomputable def field.All (t_ : RP) (mem : Reg) : Option ((List api.Field) × Reg) :=
 (dict.Table_string.Keys t_ mem).bind fun r6 =>
 (slices.Sort_string r6.1).bind fun r8 =>
 (field.Get t_ r8 r6.2).bind fun r9 =>
 some (r9, r6.2)

structure mewsref19.texts.S0 where
 i : Int

noncomputable def mewsref19.texts.body0 (a : List (List UInt8)) (b : List (List UInt8)) (s73 : mewsref19.texts.S0) : Option (mewsref19.texts.S0 ⊕ (Unit ⊕ Bool)) :=
 if s73.i < (a.length : Int) then
  need (InB s73.i a.length) <|
  need (InB s73.i b.length) <|
  if (ix a s73.i) = (ix b s73.i) then
   some (.inl ⟨IntKind.wrap .i64 (s73.i + 1)⟩)
  else
   some (.inr (.inr false))
 else
  some (.inr (.inl ()))

noncomputable def mewsref19.texts.loop0 (a : List (List UInt8)) (b : List (List UInt8)) (s73 : mewsref19.texts.S0) : Option (Unit ⊕ Bool) := whileO (mewsref19.texts.body0 a b) s73

noncomputable def mewsref19.texts (a : List (List UInt8)) (b : List (List UInt8)) : Option Bool :=
 if (a.length : Int) = (b.length : Int) then
  (mewsref19.texts.loop0 a b ⟨0⟩).bind fun s81 => onSum s81 (fun s60 =>
   some true) fun s81x => some s81x
 else
  some false

structure mewsref19.fields.S0 where
 i : Int

noncomputable def mewsref19.fields.body0 (a : List api.Field) (b : List api.Field) (s73 : mewsref19.fields.S0) : Option (mewsref19.fields.S0 ⊕ (Unit ⊕ Bool)) :=
 if s73.i < (a.length : Int) then
  need (InB s73.i a.length) <|
  need (InB s73.i b.length) <|
  if (ix a s73.i) = (ix b s73.i) then
   some (.inl ⟨IntKind.wrap .i64 (s73.i + 1)⟩)
  else
   some (.inr (.inr false))
 else
  some (.inr (.inl ()))

noncomputable def mewsref19.fields.loop0 (a : List api.Field) (b : List api.Field) (s73 : mewsref19.fields.S0) : Option (Unit ⊕ Bool) := whileO (mewsref19.fields.body0 a b) s73

noncomputable def mewsref19.fields (a : List api.Field) (b : List api.Field) : Option Bool :=
 if (a.length : Int) = (b.length : Int) then
  (mewsref19.fields.loop0 a b ⟨0⟩).bind fun s81 => onSum s81 (fun s60 =>
   some true) fun s81x => some s81x
 else
  some false

structure mewsref10.Same.S0 where
 i : Int

noncomputable def mewsref10.Same.body0 (a : List api.Scored) (b : List api.Scored) (s73 : mewsref10.Same.S0) : Option (mewsref10.Same.S0 ⊕ (Unit ⊕ Bool)) :=
 if s73.i < (a.length : Int) then
  need (InB s73.i a.length) <|
  need (InB s73.i b.length) <|
  if (ix a s73.i) = (ix b s73.i) then
   some (.inl ⟨IntKind.wrap .i64 (s73.i + 1)⟩)
  else
   some (.inr (.inr false))
 else
  some (.inr (.inl ()))

noncomputable def mewsref10.Same.loop0 (a : List api.Scored) (b : List api.Scored) (s73 : mewsref10.Same.S0) : Option (Unit ⊕ Bool) := whileO (mewsref10.Same.body0 a b) s73

noncomputable def mewsref10.Same (a : List api.Scored) (b : List api.Scored) : Option Bool :=
 if (a.length : Int) = (b.length : Int) then
  (mewsref10.Same.loop0 a b ⟨0⟩).bind fun s81 => onSum s81 (fun s60 =>
   some true) fun s81x => some s81x
 else
  some false

noncomputable def mewsref19.Same (a : api.Value) (b : api.Value) : Option Bool :=
 (
  if a.Kind = b.Kind then
   if a.Text = b.Text then
    (mewsref19.texts a.List_ b.List_).bind fun r34 =>
    if r34 = true then
     (mewsref19.fields a.Hash b.Hash).bind fun r36 =>
     if r36 = true then
      (mewsref10.Same a.ZSet b.ZSet).bind fun r38 =>
      some r38
     else
      some false
    else
     some false
   else
    some false
  else
   some false).bind fun s29 =>
 some s29

noncomputable def mewsref22.Same (a : List api.Field) (b : List api.Field) : Option Bool :=
 (mewsref19.Same ({ Kind := 0, Text := ([] : List UInt8), List_ := ([] : List (List UInt8)), Hash := a, ZSet := ([] : List api.Scored) } : api.Value) ({ Kind := 0, Text := ([] : List UInt8), List_ := ([] : List (List UInt8)), Hash := b, ZSet := ([] : List api.Scored) } : api.Value)).bind fun r2 =>
 some r2

noncomputable def mewslaw22.alive  : Option Bool :=
 (dict.New_string 1 ([] : Reg)).bind fun r14 =>
 (field.Put r14.1 [({ Key := [97], Val := [49] } : api.Field), ({ Key := [98], Val := [50] } : api.Field), ({ Key := [97], Val := [51] } : api.Field)] r14.2).bind fun r15 =>
 (
  if r15.1 = 2 then
   (field.All r14.1 r15.2).bind fun r24 =>
   (mewsref22.Same r24.1 [({ Key := [97], Val := [51] } : api.Field), ({ Key := [98], Val := [50] } : api.Field)]).bind fun r26 =>
   some (r26, r24.2)
  else
   some (false, r15.2)).bind fun s20 =>
 some s20.1

noncomputable def field.Make (seed : Int) (fields : List api.Field) (mem : Reg) : Option (RP × Reg) :=
 (dict.New_string seed mem).bind fun r3 =>
 (field.Put r3.1 fields r3.2).bind fun r4 =>
 some (r3.1, r4.2)

structure mewslaw22.keys.S0 where
 out : List (List UInt8)
 first : List UInt8
 t10 : Int

noncomputable def mewslaw22.keys.body0 (l : List api.Field) (s149 : mewslaw22.keys.S0) : Option (mewslaw22.keys.S0 ⊕ ((List (List UInt8)) × (List UInt8))) :=
 if s149.t10 < (l.length : Int) then
  need (InB s149.t10 l.length) <|
  letO (
   if s149.t10 = 0 then
    (ix l s149.t10).Key
   else
    s149.first) fun s157 =>
  need ((s149.out.length + [(ix l s149.t10).Key].length) * 16 ≤ 140737488355328) <|
  some (.inl ⟨s149.out ++ [(ix l s149.t10).Key], s157, IntKind.wrap .i64 (s149.t10 + 1)⟩)
 else
  some (.inr (s149.out, s149.first))

noncomputable def mewslaw22.keys.loop0 (l : List api.Field) (s149 : mewslaw22.keys.S0) : Option ((List (List UInt8)) × (List UInt8)) := whileO (mewslaw22.keys.body0 l) s149

noncomputable def mewslaw22.keys (l : List api.Field) : Option ((List (List UInt8)) × (List UInt8)) :=
 (mewslaw22.keys.loop0 l ⟨([] : List (List UInt8)), ([] : List UInt8), 0⟩).bind fun s122 =>
 some (s122.1, s122.2)

noncomputable def dict.Table_string.Drop (t_ : RP) (key : List UInt8) (mem : Reg) : Option (Bool × Reg) :=
 (dict.Table_string.ready t_ mem).bind fun r53 =>
 if (!r53.1) = true then
  some (false, r53.2)
 else
  (dict.Table_string.step t_ r53.2).bind fun r54 =>
  (dict.Table_string.find t_ key r54.2).bind fun r55 =>
  if r55.isNone = true then
   some (false, r54.2)
  else
   need (r55.isSome = true) <|
   (rLdP r54.2 r55).bind fun r57 =>
   need (r57.isSome = true) <|
   (rLdP r54.2 (rpAdd r57 2)).bind fun r59 =>
   (rSto r54.2 r55 [.pt r59]).bind fun r60 =>
   need (t_.isSome = true) <|
   (rLdI .i64 r60 (rpAdd t_ 7)).bind fun r62 =>
   (rSto r60 (rpAdd t_ 7) [.it .i64 (IntKind.wrap .i64 (r62 - 1))]).bind fun r63 =>
   (
    need ((rpAdd t_ 1).isSome = true) <|
    need (InB 0 2) <|
    (rLdI .i64 r63 (rpAdd (rpAdd (rpAdd t_ 1) 0) 0)).bind fun r87 =>
    (rLdL r63 (rpAdd (rpAdd (rpAdd t_ 1) 0) 1)).bind fun r88 =>
    (
     (rLdB r63 (rpAdd t_ 6)).bind fun r97 =>
     if (!r97) = true then
      if 2 < r87 then
       (rLdI .i64 r63 (rpAdd t_ 7)).bind fun r100 =>
       some (decide ((IntKind.wrap .i64 (8 * r100)) < (rsLen r88 : Int)))
      else
       some false
     else
      some false).bind fun s94 =>
    if s94 = true then
     (dict.Table_string.part t_ (IntKind.wrap .i64 (r87 - 1)) r63).bind fun r101 =>
     some r101
    else
     some r63).bind fun s82 =>
   some (true, s82)

structure field.Drop.S0 where
 n : Int
 t10 : Int
 mem : Reg

noncomputable def field.Drop.body0 (keys : List (List UInt8)) (t_ : RP) (s137 : field.Drop.S0) : Option (field.Drop.S0 ⊕ (Int × Reg)) :=
 if s137.t10 < (keys.length : Int) then
  (
   need (InB s137.t10 keys.length) <|
   (dict.Table_string.Drop t_ (ix keys s137.t10) s137.mem).bind fun r148 =>
   if r148.1 = true then
    some (IntKind.wrap .i64 (s137.n + 1), r148.2)
   else
    some (s137.n, r148.2)).bind fun s144 =>
  some (.inl ⟨s144.1, IntKind.wrap .i64 (s137.t10 + 1), s144.2⟩)
 else
  some (.inr (s137.n, s137.mem))

noncomputable def field.Drop.loop0 (keys : List (List UInt8)) (t_ : RP) (s137 : field.Drop.S0) : Option (Int × Reg) := whileO (field.Drop.body0 keys t_) s137

noncomputable def field.Drop (t_ : RP) (keys : List (List UInt8)) (mem : Reg) : Option (Int × Reg) :=
 (field.Drop.loop0 keys t_ ⟨0, 0, mem⟩).bind fun s112 =>
 some (s112.1, s112.2)

structure mewslaw22.FieldLast.S0 where
 t28 : Int

structure mewslaw22.FieldLast.S2 where
 last : List UInt8
 t35 : Int

noncomputable def mewslaw22.FieldLast.body2 (fields : List api.Field) (r617 : (List api.Field) × Reg) (s1070 : mewslaw22.FieldLast.S0) (s1137 : mewslaw22.FieldLast.S2) : Option (mewslaw22.FieldLast.S2 ⊕ (List UInt8)) :=
 if s1137.t35 < (fields.length : Int) then
  (
   need (InB s1137.t35 fields.length) <|
   if (ix fields s1137.t35).Key = (ix r617.1 s1070.t28).Key then
    some (ix fields s1137.t35).Val
   else
    some s1137.last).bind fun s1144 =>
  some (.inl ⟨s1144, IntKind.wrap .i64 (s1137.t35 + 1)⟩)
 else
  some (.inr s1137.last)

noncomputable def mewslaw22.FieldLast.loop2 (fields : List api.Field) (r617 : (List api.Field) × Reg) (s1070 : mewslaw22.FieldLast.S0) (s1137 : mewslaw22.FieldLast.S2) : Option (List UInt8) := whileO (mewslaw22.FieldLast.body2 fields r617 s1070) s1137

noncomputable def mewslaw22.FieldLast.body0 (r617 : (List api.Field) × Reg) (fields : List api.Field) (s1070 : mewslaw22.FieldLast.S0) : Option (mewslaw22.FieldLast.S0 ⊕ (Unit ⊕ Bool)) :=
 if s1070.t28 < (r617.1.length : Int) then
  need (InB s1070.t28 r617.1.length) <|
  (mewslaw22.FieldLast.loop2 fields r617 s1070 ⟨([] : List UInt8), 0⟩).bind fun s1112 =>
  (
   if (ix r617.1 s1070.t28).Val = s1112 then
    if 0 < s1070.t28 then
     need (InB (IntKind.wrap .i64 (s1070.t28 - 1)) r617.1.length) <|
     some (!strLt (ix r617.1 (IntKind.wrap .i64 (s1070.t28 - 1))).Key (ix r617.1 s1070.t28).Key)
    else
     some false
   else
    some true).bind fun s1154 =>
  if s1154 = true then
   some (.inr (.inr false))
  else
   some (.inl ⟨IntKind.wrap .i64 (s1070.t28 + 1)⟩)
 else
  some (.inr (.inl ()))

noncomputable def mewslaw22.FieldLast.loop0 (r617 : (List api.Field) × Reg) (fields : List api.Field) (s1070 : mewslaw22.FieldLast.S0) : Option (Unit ⊕ Bool) := whileO (mewslaw22.FieldLast.body0 r617 fields) s1070

structure mewslaw22.FieldLast.S4 where
 t74 : Int

noncomputable def mewslaw22.FieldLast.body4 (r1162 : (List (List UInt8)) × (List UInt8)) (r616 : RP × Reg) (r617 : (List api.Field) × Reg) (s1200 : mewslaw22.FieldLast.S4) : Option (mewslaw22.FieldLast.S4 ⊕ (Unit ⊕ Bool)) :=
 if s1200.t74 < (r1162.1.length : Int) then
  need (InB s1200.t74 r1162.1.length) <|
  (field.Get r616.1 [ix r1162.1 s1200.t74] r617.2).bind fun r1205 =>
  if (r1205.length : Int) = 1 then
   some (.inl ⟨IntKind.wrap .i64 (s1200.t74 + 1)⟩)
  else
   some (.inr (.inr false))
 else
  some (.inr (.inl ()))

noncomputable def mewslaw22.FieldLast.loop4 (r1162 : (List (List UInt8)) × (List UInt8)) (r616 : RP × Reg) (r617 : (List api.Field) × Reg) (s1200 : mewslaw22.FieldLast.S4) : Option (Unit ⊕ Bool) := whileO (mewslaw22.FieldLast.body4 r1162 r616 r617) s1200

noncomputable def mewslaw22.FieldLast (seed : Int) (fields : List api.Field) : Option Bool :=
 (mewslaw19.Far [({ Kind := 0, Text := ([] : List UInt8), List_ := ([] : List (List UInt8)), Hash := fields, ZSet := ([] : List api.Scored) } : api.Value)]).bind fun r614 =>
 if r614 = true then
  (mewslaw22.alive).bind fun r615 =>
  some r615
 else
  (field.Make seed fields ([] : Reg)).bind fun r616 =>
  (field.All r616.1 r616.2).bind fun r617 =>
  (mewslaw22.FieldLast.loop0 r617 fields ⟨0⟩).bind fun s1225 => onSum s1225 (fun s889 =>
   (mewslaw22.keys fields).bind fun r1162 =>
   (mewslaw22.FieldLast.loop4 r1162 r616 r617 ⟨0⟩).bind fun s1224 => onSum s1224 (fun s1185 =>
    (
     (field.Drop r616.1 r1162.1 r617.2).bind fun r1218 =>
     if r1218.1 = (r617.1.length : Int) then
      (field.All r616.1 r1218.2).bind fun r1220 =>
      if (r1220.1.length : Int) = 0 then
       (mewslaw22.alive).bind fun r1223 =>
       some (r1223, r1220.2)
      else
       some (false, r1220.2)
     else
      some (false, r1218.2)).bind fun s1215 =>
    some s1215.1) fun s1224x => some s1224x) fun s1225x => some s1225x

structure num.Parse.S0 where
 n : Int
 t42 : Int

noncomputable def num.Parse.body0 (s120 : List UInt8) (s194 : num.Parse.S0) : Option (num.Parse.S0 ⊕ (Int ⊕ (Int × Bool))) :=
 if s194.t42 < (s120.length : Int) then
  need (InB s194.t42 s120.length) <|
  letO (
   if (bix s120 s194.t42) < 48 then
    true
   else
    decide (57 < (bix s120 s194.t42))) fun s200 =>
  if s200 = true then
   some (.inr (.inr (0, false)))
  else
   letO (IntKind.wrap .u64 ((IntKind.wrap .u64 (s194.n * 10)) + (IntKind.wrap .u64 (IntKind.wrap .u8 ((bix s120 s194.t42) - 48))))) fun x204 =>
   some (.inl ⟨x204, IntKind.wrap .i64 (s194.t42 + 1)⟩)
 else
  some (.inr (.inl s194.n))

noncomputable def num.Parse.loop0 (s120 : List UInt8) (s194 : num.Parse.S0) : Option (Int ⊕ (Int × Bool)) := whileO (num.Parse.body0 s120) s194

noncomputable def num.Parse (s_ : List UInt8) : Option (Int × Bool) :=
 (
  if s_ = ([] : List UInt8) then
   some false
  else
   need (InB 0 s_.length) <|
   some (decide ((bix s_ 0) = 45))).bind fun s113 =>
 (
  if s113 = true then
   need (InR 1 (s_.length : Int) s_.length) <|
   some (sub s_ 1 (s_.length : Int))
  else
   some s_).bind fun s120 =>
 (
  if s120 = ([] : List UInt8) then
   some true
  else
   if 19 < (s120.length : Int) then
    some true
   else
    need (InB 0 s120.length) <|
    if (bix s120 0) = 48 then
     if s113 = true then
      some true
     else
      some (decide (1 < (s120.length : Int)))
    else
     some false).bind fun s130 =>
 if s130 = true then
  some (0, false)
 else
  (num.Parse.loop0 s120 ⟨0, 0⟩).bind fun s219 => onSum s219 (fun s171 =>
   letO (
    if s113 = true then
     decide (s171 ≤ 9223372036854775808)
    else
     false) fun s208 =>
   if s208 = true then
    some (IntKind.wrap .i64 (0 - (IntKind.wrap .i64 s171)), true)
   else
    letO (
     if s113 = true then
      true
     else
      decide (9223372036854775808 ≤ s171)) fun s213 =>
    if s213 = true then
     some (0, false)
    else
     some (IntKind.wrap .i64 s171, true)) fun s219x => some s219x

noncomputable def num.Add (a : Int) (b : Int) : Option (Int × Bool) :=
 letO (
  if (!((decide (a < (IntKind.wrap .i64 (a + b)))) == (decide (0 < b)))) = true then
   (!decide (b = 0))
  else
   false) fun s8 =>
 if s8 = true then
  some (0, false)
 else
  some (IntKind.wrap .i64 (a + b), true)

structure num.Text.S0 where
 at_ : Int
 u : Int
 v : List UInt8

noncomputable def num.Text.body0  (s109 : num.Text.S0) : Option (num.Text.S0 ⊕ (Int × (List UInt8))) :=
 need (InB (IntKind.wrap .i64 (s109.at_ - 1)) 20) <|
 need (s109.v.length = 20) <|
 need (InB (IntKind.wrap .i64 (s109.at_ - 1)) s109.v.length) <|
 need (IsU8 (IntKind.wrap .u8 (IntKind.wrap .u64 (48 + (s109.u.tmod 10))))) <|
 if (IntKind.wrap .u64 (s109.u.tdiv 10)) = 0 then
  some (.inr (IntKind.wrap .i64 (s109.at_ - 1), upd s109.v (IntKind.wrap .i64 (s109.at_ - 1)) (u8 (IntKind.wrap .u8 (IntKind.wrap .u64 (48 + (s109.u.tmod 10)))))))
 else
  some (.inl ⟨IntKind.wrap .i64 (s109.at_ - 1), IntKind.wrap .u64 (s109.u.tdiv 10), upd s109.v (IntKind.wrap .i64 (s109.at_ - 1)) (u8 (IntKind.wrap .u8 (IntKind.wrap .u64 (48 + (s109.u.tmod 10)))))⟩)

noncomputable def num.Text.loop0  (s109 : num.Text.S0) : Option (Int × (List UInt8)) := whileO (num.Text.body0 ) s109

noncomputable def num.Text (n_ : Int) : Option (List UInt8) :=
 letO (
  if n_ < 0 then
   IntKind.wrap .u64 (0 - (IntKind.wrap .u64 n_))
  else
   IntKind.wrap .u64 n_) fun s69 =>
 (num.Text.loop0  ⟨20, s69, List.replicate 20 (0 : UInt8)⟩).bind fun s94 =>
 (
  if n_ < 0 then
   need (InB (IntKind.wrap .i64 (s94.1 - 1)) 20) <|
   need (s94.2.length = 20) <|
   need (InB (IntKind.wrap .i64 (s94.1 - 1)) s94.2.length) <|
   need (IsU8 45) <|
   some (IntKind.wrap .i64 (s94.1 - 1), upd s94.2 (IntKind.wrap .i64 (s94.1 - 1)) (u8 45))
  else
   some (s94.1, s94.2)).bind fun s123 =>
 need (InR s123.1 (s123.2.length : Int) s123.2.length) <|
 need (s123.2.length = 20) <|
 some (sub s123.2 s123.1 (s123.2.length : Int))

noncomputable def str.Add (s_ : List UInt8) (by_ : Int) : Option ((List UInt8) × Int) :=
 (num.Parse s_).bind fun r6 =>
 if (!r6.2) = true then
  some (([] : List UInt8), 2)
 else
  (num.Add r6.1 by_).bind fun r7 =>
  if (!r7.2) = true then
   some (([] : List UInt8), 13)
  else
   (num.Text r7.1).bind fun r8 =>
   some (r8, 0)

noncomputable def field.Add (t_ : RP) (key : List UInt8) (by_ : Int) (mem : Reg) : Option ((List UInt8) × Int × Reg) :=
 if t_.isNone = true then
  some (([] : List UInt8), 8, mem)
 else
  (dict.Table_string.Get t_ key mem).bind fun r16 =>
  letO (
   if (!r16.2) = true then
    [48]
   else
    r16.1) fun s18 =>
  (str.Add s18 by_).bind fun r22 =>
  (
   if r22.2 = 0 then
    (dict.Table_string.Put t_ key r22.1 mem).bind fun r28 =>
    some r28.2
   else
    some mem).bind fun s25 =>
  some (r22.1, r22.2, s25)

noncomputable def mewslaw22.FieldUndo (fields : List api.Field) (key : List UInt8) (by_ : Int) : Option Bool :=
 (
  (mewslaw19.Far [({ Kind := 0, Text := ([] : List UInt8), List_ := ([] : List (List UInt8)), Hash := fields, ZSet := ([] : List api.Scored) } : api.Value)]).bind fun r73 =>
  if r73 = true then
   some true
  else
   if 300 < (key.length : Int) then
    some true
   else
    some (decide (by_ = (-9223372036854775808)))).bind fun s70 =>
 if s70 = true then
  (mewslaw22.alive).bind fun r76 =>
  some r76
 else
  (field.Make 7 fields ([] : Reg)).bind fun r77 =>
  (field.All r77.1 r77.2).bind fun r78 =>
  (field.Add r77.1 key by_ r78.2).bind fun r80 =>
  if r80.2.1 = 0 then
   (field.Add r77.1 key (IntKind.wrap .i64 (0 - by_)) r80.2.2).bind fun r94 =>
   (field.Make 7 r78.1 r94.2.2).bind fun r95 =>
   (field.Get r95.1 [key] r95.2).bind fun r96 =>
   (
    if 0 < (r96.length : Int) then
     need (InB 0 r96.length) <|
     some (ix r96 0).Val
    else
     some [48]).bind fun s100 =>
   (field.Add (none : RP) key by_ r95.2).bind fun r105 =>
   (
    if r94.2.1 = 0 then
     if r94.1 = s100 then
      if r105.2.1 = 8 then
       (field.Put (none : RP) fields r105.2.2).bind fun r123 =>
       if r123.1 = 0 then
        (field.Drop (none : RP) [key] r123.2).bind fun r125 =>
        if r125.1 = 0 then
         (field.All (none : RP) r125.2).bind fun r127 =>
         if (r127.1.length : Int) = 0 then
          (mewslaw22.alive).bind fun r130 =>
          some (r130, r127.2)
         else
          some (false, r127.2)
        else
         some (false, r125.2)
       else
        some (false, r123.2)
      else
       some (false, r105.2.2)
     else
      some (false, r105.2.2)
    else
     some (false, r105.2.2)).bind fun s117 =>
   some s117.1
  else
   (
    (field.All r77.1 r80.2.2).bind fun r89 =>
    (mewsref22.Same r89.1 r78.1).bind fun r91 =>
    if r91 = true then
     (mewslaw22.alive).bind fun r93 =>
     some (r93, r89.2)
    else
     some (false, r89.2)).bind fun s86 =>
   some s86.1

structure mewslaw22.Far.S0 where
 all_ : List api.Value
 t8 : Int

noncomputable def mewslaw22.Far.body0 (l : List mewslaw22.Op) (s95 : mewslaw22.Far.S0) : Option (mewslaw22.Far.S0 ⊕ (List api.Value)) :=
 if s95.t8 < (l.length : Int) then
  need (InB s95.t8 l.length) <|
  need ((s95.all_.length + [({ Kind := 0, Text := ([] : List UInt8), List_ := ([] : List (List UInt8)), Hash := (ix l s95.t8).Fields, ZSet := ([] : List api.Scored) } : api.Value)].length) * 96 ≤ 140737488355328) <|
  some (.inl ⟨s95.all_ ++ [({ Kind := 0, Text := ([] : List UInt8), List_ := ([] : List (List UInt8)), Hash := (ix l s95.t8).Fields, ZSet := ([] : List api.Scored) } : api.Value)], IntKind.wrap .i64 (s95.t8 + 1)⟩)
 else
  some (.inr s95.all_)

noncomputable def mewslaw22.Far.loop0 (l : List mewslaw22.Op) (s95 : mewslaw22.Far.S0) : Option (List api.Value) := whileO (mewslaw22.Far.body0 l) s95

noncomputable def mewslaw22.Far (l : List mewslaw22.Op) : Option Bool :=
 (mewslaw22.Far.loop0 l ⟨([] : List api.Value), 0⟩).bind fun s78 =>
 (mewslaw19.Far s78).bind fun r106 =>
 some r106

structure mewsref22.Has.S0 where
 i : Int

noncomputable def mewsref22.Has.body0 (l : List api.Field) (key : List UInt8) (s72 : mewsref22.Has.S0) : Option (mewsref22.Has.S0 ⊕ (Unit ⊕ ((List UInt8) × Bool))) :=
 if s72.i < (l.length : Int) then
  need (InB s72.i l.length) <|
  if (ix l s72.i).Key = key then
   need (InB s72.i l.length) <|
   some (.inr (.inr ((ix l s72.i).Val, true)))
  else
   some (.inl ⟨IntKind.wrap .i64 (s72.i + 1)⟩)
 else
  some (.inr (.inl ()))

noncomputable def mewsref22.Has.loop0 (l : List api.Field) (key : List UInt8) (s72 : mewsref22.Has.S0) : Option (Unit ⊕ ((List UInt8) × Bool)) := whileO (mewsref22.Has.body0 l key) s72

noncomputable def mewsref22.Has (l : List api.Field) (key : List UInt8) : Option ((List UInt8) × Bool) :=
 (mewsref22.Has.loop0 l key ⟨0⟩).bind fun s80 => onSum s80 (fun s59 =>
  some (([] : List UInt8), false)) fun s80x => some s80x

structure mewsref19.Put.S0 where
 i : Int

noncomputable def mewsref19.Put.body0 (l : List api.Field) (f : api.Field) (s144 : mewsref19.Put.S0) : Option (mewsref19.Put.S0 ⊕ Int) :=
 (
  if s144.i < (l.length : Int) then
   need (InB s144.i l.length) <|
   some (strLt (ix l s144.i).Key f.Key)
  else
   some false).bind fun s150 =>
 if s150 = true then
  some (.inl ⟨IntKind.wrap .i64 (s144.i + 1)⟩)
 else
  some (.inr s144.i)

noncomputable def mewsref19.Put.loop0 (l : List api.Field) (f : api.Field) (s144 : mewsref19.Put.S0) : Option Int := whileO (mewsref19.Put.body0 l f) s144

noncomputable def mewsref19.Put (l : List api.Field) (f : api.Field) : Option (List api.Field) :=
 (mewsref19.Put.loop0 l f ⟨0⟩).bind fun s123 =>
 need (InR 0 s123 l.length) <|
 need ((([] : List api.Field).length + (sub l 0 s123).length) * 32 ≤ 140737488355328) <|
 need (((([] : List api.Field) ++ (sub l 0 s123)).length + [f].length) * 32 ≤ 140737488355328) <|
 (
  (
   if s123 < (l.length : Int) then
    need (InB s123 l.length) <|
    some (decide ((ix l s123).Key = f.Key))
   else
    some false).bind fun s174 =>
  if s174 = true then
   some (IntKind.wrap .i64 (s123 + 1))
  else
   some s123).bind fun s169 =>
 need (InR s169 (l.length : Int) l.length) <|
 need ((((([] : List api.Field) ++ (sub l 0 s123)) ++ [f]).length + (sub l s169 (l.length : Int)).length) * 32 ≤ 140737488355328) <|
 some (((([] : List api.Field) ++ (sub l 0 s123)) ++ [f]) ++ (sub l s169 (l.length : Int)))

structure mewsref22.Put.S0 where
 l : List api.Field
 n : Int
 i : Int

noncomputable def mewsref22.Put.body0 (fields : List api.Field) (s148 : mewsref22.Put.S0) : Option (mewsref22.Put.S0 ⊕ ((List api.Field) × Int)) :=
 if s148.i < (fields.length : Int) then
  need (InB s148.i fields.length) <|
  (mewsref22.Has s148.l (ix fields s148.i).Key).bind fun r153 =>
  letO (
   if (!r153.2) = true then
    IntKind.wrap .i64 (s148.n + 1)
   else
    s148.n) fun s155 =>
  need (InB s148.i fields.length) <|
  (mewsref19.Put s148.l (ix fields s148.i)).bind fun r160 =>
  some (.inl ⟨r160, s155, IntKind.wrap .i64 (s148.i + 1)⟩)
 else
  some (.inr (s148.l, s148.n))

noncomputable def mewsref22.Put.loop0 (fields : List api.Field) (s148 : mewsref22.Put.S0) : Option ((List api.Field) × Int) := whileO (mewsref22.Put.body0 fields) s148

noncomputable def mewsref22.Put (l : List api.Field) (fields : List api.Field) : Option ((List api.Field) × Int) :=
 (mewsref22.Put.loop0 fields ⟨l, 0, 0⟩).bind fun s121 =>
 some (s121.1, s121.2)

structure mewsref22.Drop.S0 where
 l : List api.Field
 n : Int
 i : Int

structure mewsref22.Drop.S2 where
 n : Int
 out : List api.Field
 k : Int

noncomputable def mewsref22.Drop.body2 (s1424 : mewsref22.Drop.S0) (keys : List (List UInt8)) (s1531 : mewsref22.Drop.S2) : Option (mewsref22.Drop.S2 ⊕ (Int × (List api.Field))) :=
 if s1531.k < (s1424.l.length : Int) then
  (
   need (InB s1531.k s1424.l.length) <|
   need (InB s1424.i keys.length) <|
   if (ix s1424.l s1531.k).Key = (ix keys s1424.i) then
    some (IntKind.wrap .i64 (s1531.n + 1), s1531.out)
   else
    need (InB s1531.k s1424.l.length) <|
    need ((s1531.out.length + [(ix s1424.l s1531.k)].length) * 32 ≤ 140737488355328) <|
    some (s1531.n, s1531.out ++ [(ix s1424.l s1531.k)])).bind fun s1542 =>
  some (.inl ⟨s1542.1, s1542.2, IntKind.wrap .i64 (s1531.k + 1)⟩)
 else
  some (.inr (s1531.n, s1531.out))

noncomputable def mewsref22.Drop.loop2 (s1424 : mewsref22.Drop.S0) (keys : List (List UInt8)) (s1531 : mewsref22.Drop.S2) : Option (Int × (List api.Field)) := whileO (mewsref22.Drop.body2 s1424 keys) s1531

noncomputable def mewsref22.Drop.body0 (keys : List (List UInt8)) (s1424 : mewsref22.Drop.S0) : Option (mewsref22.Drop.S0 ⊕ ((List api.Field) × Int)) :=
 if s1424.i < (keys.length : Int) then
  (mewsref22.Drop.loop2 s1424 keys ⟨s1424.n, ([] : List api.Field), 0⟩).bind fun s1489 =>
  some (.inl ⟨s1489.2, s1489.1, IntKind.wrap .i64 (s1424.i + 1)⟩)
 else
  some (.inr (s1424.l, s1424.n))

noncomputable def mewsref22.Drop.loop0 (keys : List (List UInt8)) (s1424 : mewsref22.Drop.S0) : Option ((List api.Field) × Int) := whileO (mewsref22.Drop.body0 keys) s1424

noncomputable def mewsref22.Drop (l : List api.Field) (keys : List (List UInt8)) : Option ((List api.Field) × Int) :=
 (mewsref22.Drop.loop0 keys ⟨l, 0, 0⟩).bind fun s1165 =>
 some (s1165.1, s1165.2)

noncomputable def mewsref01.digits.rec : Nat → Int → Option (List UInt8)
 | 0, _ => none
 | kk + 1, n_ =>
  if (-10) < n_ then
   need (InR (IntKind.wrap .i64 (0 - (n_.tmod 10))) (IntKind.wrap .i64 ((IntKind.wrap .i64 (0 - (n_.tmod 10))) + 1)) [48, 49, 50, 51, 52, 53, 54, 55, 56, 57].length) <|
   letO (sub [48, 49, 50, 51, 52, 53, 54, 55, 56, 57] (IntKind.wrap .i64 (0 - (n_.tmod 10))) (IntKind.wrap .i64 ((IntKind.wrap .i64 (0 - (n_.tmod 10))) + 1))) fun x9 =>
   some x9
  else
   (mewsref01.digits.rec kk (IntKind.wrap .i64 (n_.tdiv 10))).bind fun r10 =>
   need (InR (IntKind.wrap .i64 (0 - (n_.tmod 10))) (IntKind.wrap .i64 ((IntKind.wrap .i64 (0 - (n_.tmod 10))) + 1)) [48, 49, 50, 51, 52, 53, 54, 55, 56, 57].length) <|
   letO (sub [48, 49, 50, 51, 52, 53, 54, 55, 56, 57] (IntKind.wrap .i64 (0 - (n_.tmod 10))) (IntKind.wrap .i64 ((IntKind.wrap .i64 (0 - (n_.tmod 10))) + 1))) fun x12 =>
   need (r10.length + x12.length ≤ 9223372036854775807) <|
   some (r10 ++ x12)

noncomputable def mewsref01.digits (n_ : Int) : Option (List UInt8) := fixO fun kk => mewsref01.digits.rec kk n_

noncomputable def mewsref01.Text (n_ : Int) : Option (List UInt8) :=
 if n_ < 0 then
  (mewsref01.digits n_).bind fun r5 =>
  need ([45].length + r5.length ≤ 9223372036854775807) <|
  some ([45] ++ r5)
 else
  (mewsref01.digits (IntKind.wrap .i64 (0 - n_))).bind fun r7 =>
  some r7

structure mewsref01.Parse.S0 where
 n : Int
 i : Int

noncomputable def mewsref01.Parse.body0 (s_ : List UInt8) (s309 : Bool) (s550 : mewsref01.Parse.S0) : Option (mewsref01.Parse.S0 ⊕ (Int ⊕ (Int × Bool))) :=
 if s550.i < (s_.length : Int) then
  (
   letO (
    if s550.i = 0 then
     s309
    else
     false) fun s578 =>
   if s578 = true then
    some (.inl s550.n)
   else
    (
     need (InB s550.i s_.length) <|
     if (bix s_ s550.i) < 48 then
      some true
     else
      need (InB s550.i s_.length) <|
      some (decide (57 < (bix s_ s550.i)))).bind fun s585 =>
    if s585 = true then
     some (.inr (.inr (.inr (0, false))))
    else
     need (InB s550.i s_.length) <|
     letO (IntKind.wrap .i64 ((IntKind.wrap .i64 ((-9223372036854775808) + (IntKind.wrap .i64 (IntKind.wrap .u8 ((bix s_ s550.i) - 48))))).tdiv 10)) fun x592 =>
     if s550.n < x592 then
      some (.inr (.inr (.inr (0, false))))
     else
      letO (IntKind.wrap .i64 ((IntKind.wrap .i64 (s550.n * 10)) - (IntKind.wrap .i64 (IntKind.wrap .u8 ((bix s_ s550.i) - 48))))) fun x593 =>
      some (.inl x593)).bind fun s597 => onSum s597 (fun s574 =>
   some (.inl ⟨s574, IntKind.wrap .i64 (s550.i + 1)⟩)) fun s597x => some s597x
 else
  some (.inr (.inl s550.n))

noncomputable def mewsref01.Parse.loop0 (s_ : List UInt8) (s309 : Bool) (s550 : mewsref01.Parse.S0) : Option (Int ⊕ (Int × Bool)) := whileO (mewsref01.Parse.body0 s_ s309) s550

noncomputable def mewsref01.Parse (s_ : List UInt8) : Option (Int × Bool) :=
 (
  if 0 < (s_.length : Int) then
   need (InB 0 s_.length) <|
   some (decide ((bix s_ 0) = 45))
  else
   some false).bind fun s309 =>
 (mewsref01.Parse.loop0 s_ s309 ⟨0, 0⟩).bind fun s612 => onSum s612 (fun s455 =>
  letO (
   if (!s309) = true then
    decide (s455 = (-9223372036854775808))
   else
    false) fun s600 =>
  if s600 = true then
   some (0, false)
  else
   letO (
    if (!s309) = true then
     IntKind.wrap .i64 (0 - s455)
    else
     s455) fun s605 =>
   (mewsref01.Text s605).bind fun r609 =>
   if r609 = s_ then
    some (s605, true)
   else
    some (0, false)) fun s612x => some s612x

noncomputable def mewsref01.Add (a : Int) (b : Int) : Option (Int × Bool) :=
 letO (
  if 0 < b then
   if (IntKind.wrap .i64 (9223372036854775807 - b)) < a then
    true
   else
    if b < 0 then
     decide (a < (IntKind.wrap .i64 ((-9223372036854775808) - b)))
    else
     false
  else
   if b < 0 then
    decide (a < (IntKind.wrap .i64 ((-9223372036854775808) - b)))
   else
    false) fun s17 =>
 if s17 = true then
  some (0, false)
 else
  some (IntKind.wrap .i64 (a + b), true)

noncomputable def mewsref20.Add (s_ : List UInt8) (by_ : Int) : Option ((List UInt8) × Int) :=
 (mewsref01.Parse s_).bind fun r6 =>
 if (!r6.2) = true then
  some (([] : List UInt8), 2)
 else
  (mewsref01.Add r6.1 by_).bind fun r7 =>
  if (!r7.2) = true then
   some (([] : List UInt8), 13)
  else
   (mewsref01.Text r7.1).bind fun r8 =>
   some (r8, 0)

noncomputable def mewsref22.Add (l : List api.Field) (key : List UInt8) (by_ : Int) : Option ((List api.Field) × (List UInt8) × Int) :=
 (mewsref22.Has l key).bind fun r11 =>
 letO (
  if (!r11.2) = true then
   [48]
  else
   r11.1) fun s13 =>
 (mewsref20.Add s13 by_).bind fun r17 =>
 if r17.2 = 0 then
  (mewsref19.Put l ({ Key := key, Val := r17.1 } : api.Field)).bind fun r18 =>
  some (r18, r17.1, 0)
 else
  some (l, ([] : List UInt8), r17.2)

structure mewsref22.Get.S0 where
 out : List api.Field
 i : Int

noncomputable def mewsref22.Get.body0 (keys : List (List UInt8)) (l : List api.Field) (s230 : mewsref22.Get.S0) : Option (mewsref22.Get.S0 ⊕ (List api.Field)) :=
 if s230.i < (keys.length : Int) then
  (
   need (InB s230.i keys.length) <|
   (mewsref22.Has l (ix keys s230.i)).bind fun r246 =>
   if r246.2 = true then
    need (InB s230.i keys.length) <|
    need ((s230.out.length + [({ Key := ix keys s230.i, Val := r246.1 } : api.Field)].length) * 32 ≤ 140737488355328) <|
    some (s230.out ++ [({ Key := ix keys s230.i, Val := r246.1 } : api.Field)])
   else
    some s230.out).bind fun s241 =>
  some (.inl ⟨s241, IntKind.wrap .i64 (s230.i + 1)⟩)
 else
  some (.inr s230.out)

noncomputable def mewsref22.Get.loop0 (keys : List (List UInt8)) (l : List api.Field) (s230 : mewsref22.Get.S0) : Option (List api.Field) := whileO (mewsref22.Get.body0 keys l) s230

noncomputable def mewsref22.Get (l : List api.Field) (keys : List (List UInt8)) : Option (List api.Field) :=
 (mewsref22.Get.loop0 keys l ⟨([] : List api.Field), 0⟩).bind fun s188 =>
 some s188

structure mewslaw22.FieldPlays.S0 where
 r : List api.Field
 t24 : Int
 mem : Reg

noncomputable def mewslaw22.FieldPlays.body0 (l : List mewslaw22.Op) (r368 : RP × Reg) (s655 : mewslaw22.FieldPlays.S0) : Option (mewslaw22.FieldPlays.S0 ⊕ (((List api.Field) × Reg) ⊕ Bool)) :=
 if s655.t24 < (l.length : Int) then
  need (InB s655.t24 l.length) <|
  (mewslaw22.keys (ix l s655.t24).Fields).bind fun r661 =>
  (
   if (ix l s655.t24).Kind = 0 then
    (field.Put r368.1 (ix l s655.t24).Fields s655.mem).bind fun r681 =>
    (mewsref22.Put s655.r (ix l s655.t24).Fields).bind fun r682 =>
    some (.inl (r682.1, r681.1, r682.2, ([] : List UInt8), ([] : List UInt8), 0, 0, r681.2))
   else
    if (ix l s655.t24).Kind = 1 then
     (field.Drop r368.1 r661.1 s655.mem).bind fun r683 =>
     (mewsref22.Drop s655.r r661.1).bind fun r684 =>
     some (.inl (r684.1, r683.1, r684.2, ([] : List UInt8), ([] : List UInt8), 0, 0, r683.2))
    else
     if (ix l s655.t24).Kind = 2 then
      (field.Add r368.1 r661.2 (ix l s655.t24).By s655.mem).bind fun r685 =>
      (mewsref22.Add s655.r r661.2 (ix l s655.t24).By).bind fun r686 =>
      some (.inl (r686.1, 0, 0, r685.1, r686.2.1, r685.2.1, r686.2.2, r685.2.2))
     else
      (field.Get r368.1 r661.1 s655.mem).bind fun r687 =>
      (mewsref22.Get s655.r r661.1).bind fun r689 =>
      (mewsref22.Same r687 r689).bind fun r691 =>
      if (!r691) = true then
       some (.inr (.inr (.inr false)))
      else
       some (.inl (s655.r, 0, 0, ([] : List UInt8), ([] : List UInt8), 0, 0, s655.mem))).bind fun s712 => onSum s712 (fun s678 =>
   (
    if s678.2.1 = s678.2.2.1 then
     if s678.2.2.2.1 = s678.2.2.2.2.1 then
      if s678.2.2.2.2.2.1 = s678.2.2.2.2.2.2.1 then
       (field.All r368.1 s678.2.2.2.2.2.2.2).bind fun r708 =>
       (mewsref22.Same r708.1 s678.1).bind fun r710 =>
       some ((!r710), r708.2)
      else
       some (true, s678.2.2.2.2.2.2.2)
     else
      some (true, s678.2.2.2.2.2.2.2)
    else
     some (true, s678.2.2.2.2.2.2.2)).bind fun s702 =>
   if s702.1 = true then
    some (.inr (.inr false))
   else
    some (.inl ⟨s678.1, IntKind.wrap .i64 (s655.t24 + 1), s702.2⟩)) fun s712x => some s712x
 else
  some (.inr (.inl (s655.r, s655.mem)))

noncomputable def mewslaw22.FieldPlays.loop0 (l : List mewslaw22.Op) (r368 : RP × Reg) (s655 : mewslaw22.FieldPlays.S0) : Option (((List api.Field) × Reg) ⊕ Bool) := whileO (mewslaw22.FieldPlays.body0 l r368) s655

noncomputable def mewslaw22.FieldPlays (seed : Int) (l : List mewslaw22.Op) : Option Bool :=
 (mewslaw22.Far l).bind fun r366 =>
 if r366 = true then
  (mewslaw22.alive).bind fun r367 =>
  some r367
 else
  (dict.New_string seed ([] : Reg)).bind fun r368 =>
  (mewslaw22.FieldPlays.loop0 l r368 ⟨([] : List api.Field), 0, r368.2⟩).bind fun s729 => onSum s729 (fun s540 =>
   (
    (field.Make (IntKind.wrap .u64 (seed + 1)) s540.1 s540.2).bind fun r723 =>
    (field.All r723.1 r723.2).bind fun r724 =>
    (mewsref22.Same r724.1 s540.1).bind fun r726 =>
    if r726 = true then
     (mewslaw22.alive).bind fun r728 =>
     some (r728, r724.2)
    else
     some (false, r724.2)).bind fun s720 =>
   some s720.1) fun s729x => some s729x

end Go.Pu
