/- Printed by lift.py: the functions over data. -/
import Derived.Test.YtahccieomaopeaaSCT
set_option maxRecDepth 100000
set_option maxHeartbeats 0
namespace Go.Pu
open Go.Lift

structure mewslaw07.far.S0 where
 t7 : Int

noncomputable def mewslaw07.far.body0 (l : List mewslaw07.Op) (s72 : mewslaw07.far.S0) : Option (mewslaw07.far.S0 ⊕ (Unit ⊕ Bool)) :=
 if s72.t7 < (l.length : Int) then
  need (InB s72.t7 l.length) <|
  if 200 < ((ix l s72.t7).Key.length : Int) then
   some (.inr (.inr true))
  else
   some (.inl ⟨IntKind.wrap .i64 (s72.t7 + 1)⟩)
 else
  some (.inr (.inl ()))

noncomputable def mewslaw07.far.loop0 (l : List mewslaw07.Op) (s72 : mewslaw07.far.S0) : Option (Unit ⊕ Bool) := whileO (mewslaw07.far.body0 l) s72

noncomputable def mewslaw07.far (l : List mewslaw07.Op) : Option Bool :=
 (mewslaw07.far.loop0 l ⟨0⟩).bind fun s80 => onSum s80 (fun s59 =>
  some (decide (300 < (l.length : Int)))) fun s80x => some s80x

noncomputable def dict.empty_int (size : Int) (mem : Reg) : Option (dict.places_int × Reg) :=
 need ((0 : Int) ≤ size) <|
 need (Room (IntKind.wrap .i64 (1 * 2 ^ min (Int.toNat size) (IntKind.bits .i64))) 8) <|
 letO (mem ++ [List.replicate (Int.toNat (IntKind.wrap .i64 (1 * 2 ^ min (Int.toNat size) (IntKind.bits .i64)))) (.pt (none : RP))]) fun x8 =>
 some (({ size := size, l := (some (mem.length, 0, Int.toNat (IntKind.wrap .i64 (1 * 2 ^ min (Int.toNat size) (IntKind.bits .i64))), Int.toNat (IntKind.wrap .i64 (1 * 2 ^ min (Int.toNat size) (IntKind.bits .i64)))) : RS) } : dict.places_int), x8)

noncomputable def dict.New_int (seed : Int) (mem : Reg) : Option (RP × Reg) :=
 (dict.empty_int 2 mem).bind fun r3 =>
 letO (r3.2 ++ [[.it .u64 seed, .it .i64 r3.1.size, .sc r3.1.l, .it .i64 0, .sc (none : RS), .it .i64 0, .bo false, .it .i64 0]]) fun x4 =>
 some ((some (r3.2.length, 0) : RP), x4)

noncomputable def dict.Table_int.Moved (t_ : RP) (mem : Reg) : Option Int :=
 (
  if t_.isNone = true then
   some true
  else
   need (t_.isSome = true) <|
   (rLdB mem (rpAdd t_ 6)).bind fun r21 =>
   some (!r21)).bind fun s16 =>
 if s16 = true then
  some (-1)
 else
  need (t_.isSome = true) <|
  (rLdI .i64 mem (rpAdd t_ 5)).bind fun r23 =>
  some r23

noncomputable def dict.Table_int.ready (t_ : RP) (mem : Reg) : Option (Bool × Reg) :=
 (
  (
   if t_.isSome = true then
    need (t_.isSome = true) <|
    need ((rpAdd t_ 1).isSome = true) <|
    need (InB 0 2) <|
    need ((rpAdd (rpAdd t_ 1) 0).isSome = true) <|
    (rLdL mem (rpAdd (rpAdd (rpAdd t_ 1) 0) 1)).bind fun r108 =>
    some r108.isNone
   else
    some false).bind fun s100 =>
  if s100 = true then
   need (t_.isSome = true) <|
   (rLdI .u64 mem (rpAdd t_ 0)).bind fun r110 =>
   (dict.New_int r110 mem).bind fun r111 =>
   need (r111.1.isSome = true) <|
   (rLdI .u64 r111.2 (rpAdd r111.1 0)).bind fun r113 =>
   (rLdI .i64 r111.2 (rpAdd r111.1 1)).bind fun r114 =>
   (rLdL r111.2 (rpAdd r111.1 2)).bind fun r115 =>
   (rLdI .i64 r111.2 (rpAdd r111.1 3)).bind fun r116 =>
   (rLdL r111.2 (rpAdd r111.1 4)).bind fun r117 =>
   (rLdI .i64 r111.2 (rpAdd r111.1 5)).bind fun r118 =>
   (rLdB r111.2 (rpAdd r111.1 6)).bind fun r119 =>
   (rLdI .i64 r111.2 (rpAdd r111.1 7)).bind fun r120 =>
   (rSto r111.2 t_ [.it .u64 r113, .it .i64 r114, .sc r115, .it .i64 r116, .sc r117, .it .i64 r118, .bo r119, .it .i64 r120]).bind fun r121 =>
   some r121
  else
   some mem).bind fun s91 =>
 some (t_.isSome, s91)

structure hash.Of.S0 where
 h : Int
 t13 : Int

noncomputable def hash.Of.body0 (s_ : List UInt8) (s86 : hash.Of.S0) : Option (hash.Of.S0 ⊕ Int) :=
 if s86.t13 < (s_.length : Int) then
  need (InB s86.t13 s_.length) <|
  some (.inl ⟨IntKind.wrap .u64 ((Go.bits .xor .u64 s86.h (IntKind.wrap .u64 (bix s_ s86.t13))) * 1099511628211), IntKind.wrap .i64 (s86.t13 + 1)⟩)
 else
  some (.inr s86.h)

noncomputable def hash.Of.loop0 (s_ : List UInt8) (s86 : hash.Of.S0) : Option Int := whileO (hash.Of.body0 s_) s86

structure hash.Of.S2 where
 h : Int
 t25 : Int

noncomputable def hash.Of.body2  (s118 : hash.Of.S2) : Option (hash.Of.S2 ⊕ Int) :=
 if s118.t25 < 3 then
  need (InB s118.t25 3) <|
  letO (IntKind.wrap .u64 ((Go.bits .xor .u64 s118.h (s118.h / 2 ^ min (Int.toNat 33) (IntKind.bits .u64))) * (ix ([18397679294719823053, 14181476777654086739, 1] : List Int) s118.t25))) fun x123 =>
  some (.inl ⟨x123, IntKind.wrap .i64 (s118.t25 + 1)⟩)
 else
  some (.inr s118.h)

noncomputable def hash.Of.loop2  (s118 : hash.Of.S2) : Option Int := whileO (hash.Of.body2 ) s118

noncomputable def hash.Of (seed : Int) (s_ : List UInt8) : Option Int :=
 (hash.Of.loop0 s_ ⟨Go.bits .xor .u64 14695981039346656037 seed, 0⟩).bind fun s76 =>
 (hash.Of.loop2  ⟨s76, 0⟩).bind fun s107 =>
 some s107

noncomputable def hash.size (b : Int) : Option Int :=
 some (if 16 < (if b < 0 then 0 else b) then 16 else (if b < 0 then 0 else b))

noncomputable def hash.low (n_ : Int) (b : Int) : Option Int :=
 (hash.size b).bind fun r3 =>
 need ((0 : Int) ≤ r3) <|
 some (Go.bits .and .u64 n_ (IntKind.wrap .u64 ((IntKind.wrap .u64 (1 * 2 ^ min (Int.toNat r3) (IntKind.bits .u64))) - 1)))

noncomputable def hash.Place (h_ : Int) (b : Int) : Option Int :=
 (hash.low h_ b).bind fun r2 =>
 some (IntKind.wrap .i64 r2)

noncomputable def dict.Table_int.slot (t_ : RP) (k_ : Int) (key : List UInt8) (mem : Reg) : Option RP :=
 need (t_.isSome = true) <|
 need ((rpAdd t_ 1).isSome = true) <|
 need (InB k_ 2) <|
 need ((rpAdd (rpAdd t_ 1) (Int.toNat k_ * 2)).isSome = true) <|
 (rLdL mem (rpAdd (rpAdd (rpAdd t_ 1) (Int.toNat k_ * 2)) 1)).bind fun r15 =>
 (rLdI .u64 mem (rpAdd t_ 0)).bind fun r16 =>
 (hash.Of r16 key).bind fun r17 =>
 (rLdI .i64 mem (rpAdd (rpAdd (rpAdd t_ 1) (Int.toNat k_ * 2)) 0)).bind fun r18 =>
 (hash.Place r17 r18).bind fun r19 =>
 need (InB r19 (rsLen r15)) <|
 some (rsPtr r15 r19 1)

noncomputable def dict.Table_int.front (t_ : RP) (k_ : Int) (x_ : RP) (mem : Reg) : Option Reg :=
 need (x_.isSome = true) <|
 (rLdS mem (rpAdd x_ 0)).bind fun r9 =>
 (dict.Table_int.slot t_ k_ r9 mem).bind fun r10 =>
 need (r10.isSome = true) <|
 (rLdP mem r10).bind fun r12 =>
 (rSto mem (rpAdd x_ 2) [.pt r12]).bind fun r13 =>
 (rSto r13 r10 [.pt x_]).bind fun r14 =>
 some r14

structure dict.Table_int.step.S0 where
 x : RP
 mem : Reg

noncomputable def dict.Table_int.step.body0 (t_ : RP) (s133 : dict.Table_int.step.S0) : Option (dict.Table_int.step.S0 ⊕ Reg) :=
 if s133.x.isSome = true then
  need (s133.x.isSome = true) <|
  (rLdP s133.mem (rpAdd s133.x 2)).bind fun r138 =>
  (dict.Table_int.front t_ 1 s133.x s133.mem).bind fun r139 =>
  some (.inl ⟨r138, r139⟩)
 else
  some (.inr s133.mem)

noncomputable def dict.Table_int.step.loop0 (t_ : RP) (s133 : dict.Table_int.step.S0) : Option Reg := whileO (dict.Table_int.step.body0 t_) s133

noncomputable def dict.Table_int.step (t_ : RP) (mem : Reg) : Option (Bool × Reg) :=
 need (t_.isSome = true) <|
 (rLdB mem (rpAdd t_ 6)).bind fun r89 =>
 if (!r89) = true then
  some (false, mem)
 else
  need ((rpAdd t_ 1).isSome = true) <|
  need (InB 0 2) <|
  need ((rpAdd (rpAdd t_ 1) 0).isSome = true) <|
  (rLdL mem (rpAdd (rpAdd (rpAdd t_ 1) 0) 1)).bind fun r93 =>
  (rLdI .i64 mem (rpAdd t_ 5)).bind fun r94 =>
  need (InB r94 (rsLen r93)) <|
  (rLdP mem (rsPtr r93 r94 1)).bind fun r96 =>
  need (InB 0 2) <|
  (rLdL mem (rpAdd (rpAdd (rpAdd t_ 1) 0) 1)).bind fun r98 =>
  (rLdI .i64 mem (rpAdd t_ 5)).bind fun r99 =>
  need (InB r99 (rsLen r98)) <|
  (rSto mem (rsPtr r98 r99 1) [.pt (none : RP)]).bind fun r101 =>
  (dict.Table_int.step.loop0 t_ ⟨r96, r101⟩).bind fun s120 =>
  (
   need (t_.isSome = true) <|
   (rLdI .i64 s120 (rpAdd t_ 5)).bind fun r160 =>
   (rSto s120 (rpAdd t_ 5) [.it .i64 (IntKind.wrap .i64 (r160 + 1))]).bind fun r161 =>
   (rLdI .i64 r161 (rpAdd t_ 5)).bind fun r162 =>
   need ((rpAdd t_ 1).isSome = true) <|
   need (InB 0 2) <|
   need ((rpAdd (rpAdd t_ 1) 0).isSome = true) <|
   (rLdL r161 (rpAdd (rpAdd (rpAdd t_ 1) 0) 1)).bind fun r166 =>
   if r162 = (rsLen r166 : Int) then
    need (InB 1 2) <|
    (rLdI .i64 r161 (rpAdd (rpAdd (rpAdd t_ 1) 2) 0)).bind fun r168 =>
    (rLdL r161 (rpAdd (rpAdd (rpAdd t_ 1) 2) 1)).bind fun r169 =>
    (rSto r161 (rpAdd t_ 1) [.it .i64 r168, .sc r169, .it .i64 0, .sc (none : RS)]).bind fun r170 =>
    (rSto r170 (rpAdd t_ 6) [.bo false]).bind fun r171 =>
    (rSto r171 (rpAdd t_ 5) [.it .i64 0]).bind fun r172 =>
    some r172
   else
    some r161).bind fun s156 =>
  some (true, s156)

structure dict.Table_int.find.S0 where
 t7 : Int

structure dict.Table_int.find.S2 where
 at_ : RP

noncomputable def dict.Table_int.find.body2 (mem : Reg) (key : List UInt8) (s1132 : dict.Table_int.find.S2) : Option (dict.Table_int.find.S2 ⊕ (Unit ⊕ (dict.Table_int.find.S0 ⊕ (Unit ⊕ RP)))) :=
 need (s1132.at_.isSome = true) <|
 (rLdP mem s1132.at_).bind fun r1137 =>
 if r1137.isSome = true then
  (rLdP mem s1132.at_).bind fun r1138 =>
  need (r1138.isSome = true) <|
  (rLdS mem (rpAdd r1138 0)).bind fun r1140 =>
  if r1140 = key then
   some (.inr (.inr (.inr (.inr s1132.at_))))
  else
   (rLdP mem s1132.at_).bind fun r1141 =>
   need (r1141.isSome = true) <|
   some (.inl ⟨rpAdd r1141 2⟩)
 else
  some (.inr (.inl ()))

noncomputable def dict.Table_int.find.loop2 (mem : Reg) (key : List UInt8) (s1132 : dict.Table_int.find.S2) : Option (Unit ⊕ (dict.Table_int.find.S0 ⊕ (Unit ⊕ RP))) := whileO (dict.Table_int.find.body2 mem key) s1132

noncomputable def dict.Table_int.find.body0 (t_ : RP) (mem : Reg) (key : List UInt8) (s1051 : dict.Table_int.find.S0) : Option (dict.Table_int.find.S0 ⊕ (Unit ⊕ RP)) :=
 if s1051.t7 < 2 then
  (
   (
    if s1051.t7 = 1 then
     need (t_.isSome = true) <|
     (rLdB mem (rpAdd t_ 6)).bind fun r1110 =>
     some (!r1110)
    else
     some false).bind fun s1105 =>
   if s1105 = true then
    some (.inr (.inr (.inl ())))
   else
    (dict.Table_int.slot t_ s1051.t7 key mem).bind fun r1111 =>
    dict.Table_int.find.loop2 mem key ⟨r1111⟩).bind fun s1146 => onSum s1146 (fun s1099 =>
   some (.inl ⟨IntKind.wrap .i64 (s1051.t7 + 1)⟩)) fun s1146x => some s1146x
 else
  some (.inr (.inl ()))

noncomputable def dict.Table_int.find.loop0 (t_ : RP) (mem : Reg) (key : List UInt8) (s1051 : dict.Table_int.find.S0) : Option (Unit ⊕ RP) := whileO (dict.Table_int.find.body0 t_ mem key) s1051

noncomputable def dict.Table_int.find (t_ : RP) (key : List UInt8) (mem : Reg) : Option RP :=
 (dict.Table_int.find.loop0 t_ mem key ⟨0⟩).bind fun s1148 => onSum s1148 (fun s860 =>
  some (none : RP)) fun s1148x => some s1148x

noncomputable def dict.Table_int.part (t_ : RP) (size : Int) (mem : Reg) : Option Reg :=
 (dict.empty_int size mem).bind fun r8 =>
 need (t_.isSome = true) <|
 need ((rpAdd t_ 1).isSome = true) <|
 need (InB 1 2) <|
 (rSto r8.2 (rpAdd (rpAdd t_ 1) 2) [.it .i64 r8.1.size, .sc r8.1.l]).bind fun r12 =>
 (rSto r12 (rpAdd t_ 6) [.bo true]).bind fun r13 =>
 (rSto r13 (rpAdd t_ 5) [.it .i64 0]).bind fun r14 =>
 some r14

noncomputable def dict.Table_int.Put (t_ : RP) (key : List UInt8) (v_ : Int) (mem : Reg) : Option (Bool × Reg) :=
 (dict.Table_int.ready t_ mem).bind fun r63 =>
 if (!r63.1) = true then
  some (false, r63.2)
 else
  (dict.Table_int.step t_ r63.2).bind fun r64 =>
  (dict.Table_int.find t_ key r64.2).bind fun r65 =>
  if r65.isSome = true then
   need (r65.isSome = true) <|
   (rLdP r64.2 r65).bind fun r67 =>
   need (r67.isSome = true) <|
   (rSto r64.2 (rpAdd r67 1) [.it .i64 v_]).bind fun r69 =>
   some (false, r69)
  else
   (
    need (t_.isSome = true) <|
    (rLdB r64.2 (rpAdd t_ 6)).bind fun r77 =>
    if r77 = true then
     some 1
    else
     some 0).bind fun s73 =>
   letO (r64.2 ++ [[.tx key, .it .i64 v_, .pt (none : RP)]]) fun x79 =>
   (dict.Table_int.front t_ s73 (some (r64.2.length, 0) : RP) x79).bind fun r80 =>
   need (t_.isSome = true) <|
   (rLdI .i64 r80 (rpAdd t_ 7)).bind fun r82 =>
   (rSto r80 (rpAdd t_ 7) [.it .i64 (IntKind.wrap .i64 (r82 + 1))]).bind fun r83 =>
   (
    need ((rpAdd t_ 1).isSome = true) <|
    need (InB 0 2) <|
    (rLdI .i64 r83 (rpAdd (rpAdd (rpAdd t_ 1) 0) 0)).bind fun r107 =>
    (rLdL r83 (rpAdd (rpAdd (rpAdd t_ 1) 0) 1)).bind fun r108 =>
    (
     (rLdB r83 (rpAdd t_ 6)).bind fun r117 =>
     if (!r117) = true then
      (rLdI .i64 r83 (rpAdd t_ 7)).bind fun r119 =>
      if (rsLen r108 : Int) < r119 then
       some (decide (r107 < 16))
      else
       some false
     else
      some false).bind fun s114 =>
    if s114 = true then
     (dict.Table_int.part t_ (IntKind.wrap .i64 (r107 + 1)) r83).bind fun r121 =>
     some r121
    else
     some r83).bind fun s102 =>
   some (true, s102)

noncomputable def dict.Table_int.Get (t_ : RP) (key : List UInt8) (mem : Reg) : Option (Int × Bool) :=
 (
  (
   if t_.isSome = true then
    need (t_.isSome = true) <|
    (rLdI .i64 mem (rpAdd t_ 7)).bind fun r65 =>
    some (decide (0 < r65))
   else
    some false).bind fun s60 =>
  if s60 = true then
   (dict.Table_int.find t_ key mem).bind fun r66 =>
   if r66.isSome = true then
    need (r66.isSome = true) <|
    (rLdP mem r66).bind fun r68 =>
    need (r68.isSome = true) <|
    (rLdI .i64 mem (rpAdd r68 1)).bind fun r70 =>
    some (.inr (r70, true))
   else
    some (.inl ())
  else
   some (.inl ())).bind fun s74 => onSum s74 (fun s54 =>
  some (0, false)) fun s74x => some s74x

noncomputable def dict.Table_int.Size (t_ : RP) (mem : Reg) : Option (Int × Reg) :=
 (dict.Table_int.ready t_ mem).bind fun r8 =>
 if (!r8.1) = true then
  some (0, r8.2)
 else
  need (t_.isSome = true) <|
  need ((rpAdd t_ 1).isSome = true) <|
  need (InB 0 2) <|
  need ((rpAdd (rpAdd t_ 1) 0).isSome = true) <|
  (rLdI .i64 r8.2 (rpAdd (rpAdd (rpAdd t_ 1) 0) 0)).bind fun r13 =>
  some (r13, r8.2)

noncomputable def dict.Table_int.Len (t_ : RP) (mem : Reg) : Option Int :=
 if t_.isNone = true then
  some 0
 else
  need (t_.isSome = true) <|
  (rLdI .i64 mem (rpAdd t_ 7)).bind fun r5 =>
  some r5

structure dict.Table_int.Step.S0 where
 made : Int
 mem : Reg

noncomputable def dict.Table_int.Step.body0 (t_ : RP) (n_ : Int) (s137 : dict.Table_int.Step.S0) : Option (dict.Table_int.Step.S0 ⊕ (Int × Reg)) :=
 (
  if t_.isSome = true then
   if s137.made < n_ then
    (dict.Table_int.step t_ s137.mem).bind fun r149 =>
    some (r149.1, r149.2)
   else
    some (false, s137.mem)
  else
   some (false, s137.mem)).bind fun s144 =>
 if s144.1 = true then
  some (.inl ⟨IntKind.wrap .i64 (s137.made + 1), s144.2⟩)
 else
  some (.inr (s137.made, s144.2))

noncomputable def dict.Table_int.Step.loop0 (t_ : RP) (n_ : Int) (s137 : dict.Table_int.Step.S0) : Option (Int × Reg) := whileO (dict.Table_int.Step.body0 t_ n_) s137

noncomputable def dict.Table_int.Step (t_ : RP) (n_ : Int) (mem : Reg) : Option (Int × Reg) :=
 (dict.Table_int.Step.loop0 t_ n_ ⟨0, mem⟩).bind fun s112 =>
 some (s112.1, s112.2)

structure mewslaw07.alive.S0 where
 t9 : Int
 mem : Reg

noncomputable def mewslaw07.alive.body0 (r116 : RP × Reg) (s188 : mewslaw07.alive.S0) : Option (mewslaw07.alive.S0 ⊕ (Reg ⊕ Bool)) :=
 if s188.t9 < ([[97], [98], [99], [100], [101]].length : Int) then
  need (InB s188.t9 [[97], [98], [99], [100], [101]].length) <|
  (
   (dict.Table_int.Moved r116.1 s188.mem).bind fun r199 =>
   if r199 = (-1) then
    (dict.Table_int.Put r116.1 (ix [[97], [98], [99], [100], [101]] s188.t9) s188.t9 s188.mem).bind fun r201 =>
    some ((!r201.1), r201.2)
   else
    some (true, s188.mem)).bind fun s196 =>
  if s196.1 = true then
   some (.inr (.inr false))
  else
   some (.inl ⟨IntKind.wrap .i64 (s188.t9 + 1), s196.2⟩)
 else
  some (.inr (.inl s188.mem))

noncomputable def mewslaw07.alive.loop0 (r116 : RP × Reg) (s188 : mewslaw07.alive.S0) : Option (Reg ⊕ Bool) := whileO (mewslaw07.alive.body0 r116) s188

noncomputable def mewslaw07.alive  : Option Bool :=
 (dict.New_int 1 ([] : Reg)).bind fun r116 =>
 (mewslaw07.alive.loop0 r116 ⟨0, r116.2⟩).bind fun s230 => onSum s230 (fun s159 =>
  (dict.Table_int.Get r116.1 [99] s159).bind fun r204 =>
  (
   (dict.Table_int.Moved r116.1 s159).bind fun r219 =>
   if r219 = 0 then
    (dict.Table_int.Size r116.1 s159).bind fun r221 =>
    if r221.1 = 2 then
     (dict.Table_int.Len r116.1 r221.2).bind fun r223 =>
     if r223 = 5 then
      if r204.1 = 2 then
       if r204.2 = true then
        (dict.Table_int.Step r116.1 9 r221.2).bind fun r227 =>
        if r227.1 = 4 then
         (dict.Table_int.Size r116.1 r227.2).bind fun r229 =>
         some (decide (r229.1 = 3), r229.2)
        else
         some (false, r227.2)
       else
        some (false, r221.2)
      else
       some (false, r221.2)
     else
      some (false, r221.2)
    else
     some (false, r221.2)
   else
    some (false, s159)).bind fun s216 =>
  some s216.1) fun s230x => some s230x

noncomputable def dict.Table_int.Drop (t_ : RP) (key : List UInt8) (mem : Reg) : Option (Bool × Reg) :=
 (dict.Table_int.ready t_ mem).bind fun r53 =>
 if (!r53.1) = true then
  some (false, r53.2)
 else
  (dict.Table_int.step t_ r53.2).bind fun r54 =>
  (dict.Table_int.find t_ key r54.2).bind fun r55 =>
  if r55.isNone = true then
   some (false, r54.2)
  else
   need (r55.isSome = true) <|
   (rLdP r54.2 r55).bind fun r57 =>
   need (r57.isSome = true) <|
   (rLdP r54.2 (rpAdd r57 2)).bind fun r59 =>
   (rSto r54.2 r55 [.pt r59]).bind fun r60 =>
   need (t_.isSome = true) <|
   (rLdI .i64 r60 (rpAdd t_ 7)).bind fun r62 =>
   (rSto r60 (rpAdd t_ 7) [.it .i64 (IntKind.wrap .i64 (r62 - 1))]).bind fun r63 =>
   (
    need ((rpAdd t_ 1).isSome = true) <|
    need (InB 0 2) <|
    (rLdI .i64 r63 (rpAdd (rpAdd (rpAdd t_ 1) 0) 0)).bind fun r87 =>
    (rLdL r63 (rpAdd (rpAdd (rpAdd t_ 1) 0) 1)).bind fun r88 =>
    (
     (rLdB r63 (rpAdd t_ 6)).bind fun r97 =>
     if (!r97) = true then
      if 2 < r87 then
       (rLdI .i64 r63 (rpAdd t_ 7)).bind fun r100 =>
       some (decide ((IntKind.wrap .i64 (8 * r100)) < (rsLen r88 : Int)))
      else
       some false
     else
      some false).bind fun s94 =>
    if s94 = true then
     (dict.Table_int.part t_ (IntKind.wrap .i64 (r87 - 1)) r63).bind fun r101 =>
     some r101
    else
     some r63).bind fun s82 =>
   some (true, s82)

structure dict.Table_int.Chain.S0 where
 out : List (List UInt8)
 x : RP

noncomputable def dict.Table_int.Chain.body0 (s105 : Bool × Reg) (s187 : dict.Table_int.Chain.S0) : Option (dict.Table_int.Chain.S0 ⊕ (List (List UInt8))) :=
 if s187.x.isSome = true then
  need (s187.x.isSome = true) <|
  (rLdS s105.2 (rpAdd s187.x 0)).bind fun r193 =>
  need ((s187.out.length + [r193].length) * 16 ≤ 140737488355328) <|
  (rLdP s105.2 (rpAdd s187.x 2)).bind fun r196 =>
  some (.inl ⟨s187.out ++ [r193], r196⟩)
 else
  some (.inr s187.out)

noncomputable def dict.Table_int.Chain.loop0 (s105 : Bool × Reg) (s187 : dict.Table_int.Chain.S0) : Option (List (List UInt8)) := whileO (dict.Table_int.Chain.body0 s105) s187

noncomputable def dict.Table_int.Chain (t_ : RP) (old : Bool) (place : Int) (mem : Reg) : Option ((List (List UInt8)) × Reg) :=
 (
  (dict.Table_int.ready t_ mem).bind fun r108 =>
  if (!r108.1) = true then
   some (true, r108.2)
  else
   if (!old) = true then
    need (t_.isSome = true) <|
    (rLdB r108.2 (rpAdd t_ 6)).bind fun r112 =>
    some ((!r112), r108.2)
   else
    some (false, r108.2)).bind fun s105 =>
 if s105.1 = true then
  some (([] : List (List UInt8)), s105.2)
 else
  need (t_.isSome = true) <|
  need ((rpAdd t_ 1).isSome = true) <|
  need (InB 0 2) <|
  (rLdI .i64 s105.2 (rpAdd (rpAdd (rpAdd t_ 1) 0) 0)).bind fun r117 =>
  (rLdL s105.2 (rpAdd (rpAdd (rpAdd t_ 1) 0) 1)).bind fun r118 =>
  (
   if (!old) = true then
    need (InB 1 2) <|
    (rLdI .i64 s105.2 (rpAdd (rpAdd (rpAdd t_ 1) 2) 0)).bind fun r128 =>
    (rLdL s105.2 (rpAdd (rpAdd (rpAdd t_ 1) 2) 1)).bind fun r129 =>
    some (r128, r129)
   else
    some (r117, r118)).bind fun s124 =>
  letO (
   if place < 0 then
    true
   else
    decide ((rsLen s124.2 : Int) ≤ place)) fun s132 =>
  if s132 = true then
   some (([] : List (List UInt8)), s105.2)
  else
   (
    need (InB place (rsLen s124.2)) <|
    (rLdP s105.2 (rsPtr s124.2 place 1)).bind fun r171 =>
    dict.Table_int.Chain.loop0 s105 ⟨([] : List (List UInt8)), r171⟩).bind fun s166 =>
   some (s166, s105.2)

structure dict.Table_int.Keys.S0 where
 out : List (List UInt8)
 t9 : Int
 mem : Reg

structure dict.Table_int.Keys.S2 where
 out : List (List UInt8)
 t20 : Int
 mem : Reg

noncomputable def dict.Table_int.Keys.body2 (r761 : RS) (t_ : RP) (s720 : dict.Table_int.Keys.S0) (s775 : dict.Table_int.Keys.S2) : Option (dict.Table_int.Keys.S2 ⊕ ((List (List UInt8)) × Reg)) :=
 if s775.t20 < (rsLen r761 : Int) then
  (dict.Table_int.Chain t_ (decide (s720.t9 = 0)) s775.t20 s775.mem).bind fun r780 =>
  need ((s775.out.length + r780.1.length) * 16 ≤ 140737488355328) <|
  some (.inl ⟨s775.out ++ r780.1, IntKind.wrap .i64 (s775.t20 + 1), r780.2⟩)
 else
  some (.inr (s775.out, s775.mem))

noncomputable def dict.Table_int.Keys.loop2 (r761 : RS) (t_ : RP) (s720 : dict.Table_int.Keys.S0) (s775 : dict.Table_int.Keys.S2) : Option ((List (List UInt8)) × Reg) := whileO (dict.Table_int.Keys.body2 r761 t_ s720) s775

noncomputable def dict.Table_int.Keys.body0 (t_ : RP) (s720 : dict.Table_int.Keys.S0) : Option (dict.Table_int.Keys.S0 ⊕ ((List (List UInt8)) × Reg)) :=
 if s720.t9 < 2 then
  (
   need (t_.isSome = true) <|
   need ((rpAdd t_ 1).isSome = true) <|
   need (InB s720.t9 2) <|
   need ((rpAdd (rpAdd t_ 1) (Int.toNat s720.t9 * 2)).isSome = true) <|
   (rLdL s720.mem (rpAdd (rpAdd (rpAdd t_ 1) (Int.toNat s720.t9 * 2)) 1)).bind fun r761 =>
   dict.Table_int.Keys.loop2 r761 t_ s720 ⟨s720.out, 0, s720.mem⟩).bind fun s753 =>
  some (.inl ⟨s753.1, IntKind.wrap .i64 (s720.t9 + 1), s753.2⟩)
 else
  some (.inr (s720.out, s720.mem))

noncomputable def dict.Table_int.Keys.loop0 (t_ : RP) (s720 : dict.Table_int.Keys.S0) : Option ((List (List UInt8)) × Reg) := whileO (dict.Table_int.Keys.body0 t_) s720

noncomputable def dict.Table_int.Keys (t_ : RP) (mem : Reg) : Option ((List (List UInt8)) × Reg) :=
 if t_.isNone = true then
  some (([] : List (List UInt8)), mem)
 else
  (dict.Table_int.Keys.loop0 t_ ⟨([] : List (List UInt8)), 0, mem⟩).bind fun s589 =>
  some (s589.1, s589.2)

structure mewslaw07.DictKeeps.S0 where
 has : Bool
 want : Int
 t29 : Int
 mem : Reg

structure mewslaw07.DictKeeps.S3 where
 n : Int
 t97 : Int

noncomputable def mewslaw07.DictKeeps.body3 (r1740 : (List (List UInt8)) × Reg) (key : List UInt8) (s1760 : mewslaw07.DictKeeps.S3) : Option (mewslaw07.DictKeeps.S3 ⊕ (Int × Reg)) :=
 if s1760.t97 < (r1740.1.length : Int) then
  (
   need (InB s1760.t97 r1740.1.length) <|
   if (ix r1740.1 s1760.t97) = key then
    some (IntKind.wrap .i64 (s1760.n + 1))
   else
    some s1760.n).bind fun s1766 =>
  some (.inl ⟨s1766, IntKind.wrap .i64 (s1760.t97 + 1)⟩)
 else
  some (.inr (s1760.n, r1740.2))

noncomputable def mewslaw07.DictKeeps.loop3 (r1740 : (List (List UInt8)) × Reg) (key : List UInt8) (s1760 : mewslaw07.DictKeeps.S3) : Option (Int × Reg) := whileO (mewslaw07.DictKeeps.body3 r1740 key) s1760

noncomputable def mewslaw07.DictKeeps.body0 (l : List mewslaw07.Op) (r906 : RP × Reg) (key : List UInt8) (s1643 : mewslaw07.DictKeeps.S0) : Option (mewslaw07.DictKeeps.S0 ⊕ (Reg ⊕ Bool)) :=
 if s1643.t29 < (l.length : Int) then
  need (InB s1643.t29 l.length) <|
  (
   if (ix l s1643.t29).Kind = 0 then
    (
     (dict.Table_int.Put r906.1 (ix l s1643.t29).Key (ix l s1643.t29).V s1643.mem).bind fun r1685 =>
     if (ix l s1643.t29).Key = key then
      if (r1685.1 == s1643.has) = true then
       some (decide ((ix l s1643.t29).Key = key), r1685.2)
      else
       some (false, r1685.2)
     else
      if (r1685.1 == false) = true then
       some (decide ((ix l s1643.t29).Key = key), r1685.2)
      else
       some (false, r1685.2)).bind fun s1682 =>
    if s1682.1 = true then
     some (.inr (.inr (.inr false)))
    else
     if (ix l s1643.t29).Key = key then
      some (.inl (true, (ix l s1643.t29).V, s1682.2))
     else
      some (.inl (s1643.has, s1643.want, s1682.2))
   else
    if (ix l s1643.t29).Kind = 1 then
     (
      if (ix l s1643.t29).Key = key then
       (dict.Table_int.Drop r906.1 key s1643.mem).bind fun r1697 =>
       some ((!(r1697.1 == s1643.has)), r1697.2)
      else
       some (false, s1643.mem)).bind fun s1693 =>
     if s1693.1 = true then
      some (.inr (.inr (.inr false)))
     else
      if (ix l s1643.t29).Key = key then
       some (.inl (false, 0, s1693.2))
      else
       (dict.Table_int.Drop r906.1 (ix l s1643.t29).Key s1693.2).bind fun r1698 =>
       some (.inl (s1643.has, s1643.want, r1698.2))
    else
     (dict.Table_int.Step r906.1 (ix l s1643.t29).V s1643.mem).bind fun r1701 =>
     some (.inl (s1643.has, s1643.want, r1701.2))).bind fun s1790 => onSum s1790 (fun s1675 =>
   (dict.Table_int.Get r906.1 key s1675.2.2).bind fun r1704 =>
   (
    (dict.Table_int.Keys r906.1 s1675.2.2).bind fun r1740 =>
    mewslaw07.DictKeeps.loop3 r1740 key ⟨0, 0⟩).bind fun s1737 =>
   (
    if r1704.1 = s1675.2.1 then
     if (!(r1704.2 == s1675.1)) = true then
      some (true, s1737.2)
     else
      if (!((decide (s1737.1 = 1)) == s1675.1)) = true then
       some (true, s1737.2)
      else
       if 1 < s1737.1 then
        some (true, s1737.2)
       else
        (dict.Table_int.Keys r906.1 s1737.2).bind fun r1786 =>
        (dict.Table_int.Len r906.1 r1786.2).bind fun r1788 =>
        some ((!decide ((r1786.1.length : Int) = r1788)), r1786.2)
    else
     some (true, s1737.2)).bind fun s1779 =>
   if s1779.1 = true then
    some (.inr (.inr false))
   else
    some (.inl ⟨s1675.1, s1675.2.1, IntKind.wrap .i64 (s1643.t29 + 1), s1779.2⟩)) fun s1790x => some s1790x
 else
  some (.inr (.inl s1643.mem))

noncomputable def mewslaw07.DictKeeps.loop0 (l : List mewslaw07.Op) (r906 : RP × Reg) (key : List UInt8) (s1643 : mewslaw07.DictKeeps.S0) : Option (Reg ⊕ Bool) := whileO (mewslaw07.DictKeeps.body0 l r906 key) s1643

noncomputable def mewslaw07.DictKeeps (seed : Int) (l : List mewslaw07.Op) (key : List UInt8) : Option Bool :=
 (
  (mewslaw07.far l).bind fun r903 =>
  if r903 = true then
   some true
  else
   some (decide (200 < (key.length : Int)))).bind fun s900 =>
 if s900 = true then
  (mewslaw07.alive).bind fun r905 =>
  some r905
 else
  (dict.New_int seed ([] : Reg)).bind fun r906 =>
  (mewslaw07.DictKeeps.loop0 l r906 key ⟨false, 0, 0, r906.2⟩).bind fun s1793 => onSum s1793 (fun s1348 =>
   (mewslaw07.alive).bind fun r1792 =>
   some r1792) fun s1793x => some s1793x

noncomputable def dict.Table_int.Toward (t_ : RP) (mem : Reg) : Option Int :=
 (
  if t_.isNone = true then
   some true
  else
   need (t_.isSome = true) <|
   (rLdB mem (rpAdd t_ 6)).bind fun r24 =>
   some (!r24)).bind fun s19 =>
 if s19 = true then
  some (-1)
 else
  need (t_.isSome = true) <|
  need ((rpAdd t_ 1).isSome = true) <|
  need (InB 1 2) <|
  need ((rpAdd (rpAdd t_ 1) 2).isSome = true) <|
  (rLdI .i64 mem (rpAdd (rpAdd (rpAdd t_ 1) 2) 0)).bind fun r29 =>
  some r29

noncomputable def bits.ReverseBytes64 (x_ : Int) : Option Int :=
 letO (Go.bits .or .u64 (Go.bits .and .u64 (x_ / 2 ^ min (Int.toNat 8) (IntKind.bits .u64)) 71777214294589695) (IntKind.wrap .u64 ((Go.bits .and .u64 x_ 71777214294589695) * 2 ^ min (Int.toNat 8) (IntKind.bits .u64)))) fun x4 =>
 letO (Go.bits .or .u64 (Go.bits .and .u64 (x4 / 2 ^ min (Int.toNat 16) (IntKind.bits .u64)) 281470681808895) (IntKind.wrap .u64 ((Go.bits .and .u64 x4 281470681808895) * 2 ^ min (Int.toNat 16) (IntKind.bits .u64)))) fun x5 =>
 letO (Go.bits .or .u64 (x5 / 2 ^ min (Int.toNat 32) (IntKind.bits .u64)) (IntKind.wrap .u64 (x5 * 2 ^ min (Int.toNat 32) (IntKind.bits .u64)))) fun x6 =>
 some x6

noncomputable def bits.Reverse64 (x_ : Int) : Option Int :=
 letO (Go.bits .or .u64 (Go.bits .and .u64 (x_ / 2 ^ min (Int.toNat 1) (IntKind.bits .u64)) 6148914691236517205) (IntKind.wrap .u64 ((Go.bits .and .u64 x_ 6148914691236517205) * 2 ^ min (Int.toNat 1) (IntKind.bits .u64)))) fun x5 =>
 letO (Go.bits .or .u64 (Go.bits .and .u64 (x5 / 2 ^ min (Int.toNat 2) (IntKind.bits .u64)) 3689348814741910323) (IntKind.wrap .u64 ((Go.bits .and .u64 x5 3689348814741910323) * 2 ^ min (Int.toNat 2) (IntKind.bits .u64)))) fun x6 =>
 letO (Go.bits .or .u64 (Go.bits .and .u64 (x6 / 2 ^ min (Int.toNat 4) (IntKind.bits .u64)) 1085102592571150095) (IntKind.wrap .u64 ((Go.bits .and .u64 x6 1085102592571150095) * 2 ^ min (Int.toNat 4) (IntKind.bits .u64)))) fun x7 =>
 (bits.ReverseBytes64 x7).bind fun r8 =>
 some r8

noncomputable def hash.Turn (n_ : Int) (b : Int) : Option Int :=
 (hash.size b).bind fun r7 =>
 if r7 = 0 then
  some 0
 else
  (hash.low n_ b).bind fun r8 =>
  (bits.Reverse64 r8).bind fun r9 =>
  (hash.size b).bind fun r10 =>
  need ((0 : Int) ≤ IntKind.wrap .i64 (64 - r10)) <|
  some (r9 / 2 ^ min (Int.toNat (IntKind.wrap .i64 (64 - r10))) (IntKind.bits .u64))

noncomputable def hash.Next (cursor : Int) (b : Int) : Option Int :=
 (hash.Turn cursor b).bind fun r3 =>
 (hash.Turn (IntKind.wrap .u64 (r3 + 1)) b).bind fun r4 =>
 some r4

structure scan.Turn_int.S0 where
 l : List (List UInt8)
 t47 : Int
 mem : Reg

noncomputable def scan.Turn_int.body0 (t_ : RP) (r73 : Int) (r72 : Int × Reg) (r78 : Int) (s128 : scan.Turn_int.S0) : Option (scan.Turn_int.S0 ⊕ ((List (List UInt8)) × Reg)) :=
 if s128.t47 < 2 then
  need (InB s128.t47 2) <|
  (dict.Table_int.Chain t_ (!decide ((if r73 < r72.1 then r73 else r72.1) = r72.1)) (ix ([r78, IntKind.wrap .i64 (r78 + (IntKind.wrap .i64 (1 * 2 ^ min (Int.toNat (if r73 < r72.1 then r73 else r72.1)) (IntKind.bits .i64))))] : List Int) s128.t47) s128.mem).bind fun r134 =>
  need ((s128.l.length + r134.1.length) * 16 ≤ 140737488355328) <|
  some (.inl ⟨s128.l ++ r134.1, IntKind.wrap .i64 (s128.t47 + 1), r134.2⟩)
 else
  some (.inr (s128.l, s128.mem))

noncomputable def scan.Turn_int.loop0 (t_ : RP) (r73 : Int) (r72 : Int × Reg) (r78 : Int) (s128 : scan.Turn_int.S0) : Option ((List (List UInt8)) × Reg) := whileO (scan.Turn_int.body0 t_ r73 r72 r78) s128

noncomputable def scan.Turn_int (t_ : RP) (cursor : Int) (mem : Reg) : Option (Int × (List (List UInt8)) × Reg) :=
 if t_.isNone = true then
  some (0, ([] : List (List UInt8)), mem)
 else
  (dict.Table_int.Size t_ mem).bind fun r72 =>
  (dict.Table_int.Toward t_ r72.2).bind fun r73 =>
  if r73 < 0 then
   (hash.Next cursor r72.1).bind fun r74 =>
   (hash.Place cursor r72.1).bind fun r75 =>
   (dict.Table_int.Chain t_ true r75 r72.2).bind fun r76 =>
   some (r74, r76.1, r76.2)
  else
   (hash.Place cursor (if r73 < r72.1 then r73 else r72.1)).bind fun r78 =>
   (dict.Table_int.Chain t_ (decide ((if r73 < r72.1 then r73 else r72.1) = r72.1)) r78 r72.2).bind fun r79 =>
   (
    need ((0 : Int) ≤ if r73 < r72.1 then r73 else r72.1) <|
    scan.Turn_int.loop0 t_ r73 r72 r78 ⟨r79.1, 0, r79.2⟩).bind fun s108 =>
   (hash.Next cursor (if r73 < r72.1 then r73 else r72.1)).bind fun r139 =>
   some (r139, s108.1, s108.2)

structure scan.Scan_int.S0 where
 cursor : Int
 l : List (List UInt8)
 t16 : Int
 mem : Reg

noncomputable def scan.Scan_int.body0 (count : Int) (t_ : RP) (s160 : scan.Scan_int.S0) : Option (scan.Scan_int.S0 ⊕ (Int × (List (List UInt8)) × Reg)) :=
 if s160.t16 < (IntKind.wrap .i64 (10 * (if 100000 < (if count < 1 then 1 else count) then 100000 else (if count < 1 then 1 else count)))) then
  (scan.Turn_int t_ s160.cursor s160.mem).bind fun r165 =>
  need ((s160.l.length + r165.2.1.length) * 16 ≤ 140737488355328) <|
  letO (
   if r165.1 = 0 then
    true
   else
    decide ((if count < 1 then 1 else count) ≤ ((s160.l ++ r165.2.1).length : Int))) fun s170 =>
  if s170 = true then
   some (.inr (r165.1, s160.l ++ r165.2.1, r165.2.2))
  else
   some (.inl ⟨r165.1, s160.l ++ r165.2.1, IntKind.wrap .i64 (s160.t16 + 1), r165.2.2⟩)
 else
  some (.inr (s160.cursor, s160.l, s160.mem))

noncomputable def scan.Scan_int.loop0 (count : Int) (t_ : RP) (s160 : scan.Scan_int.S0) : Option (Int × (List (List UInt8)) × Reg) := whileO (scan.Scan_int.body0 count t_) s160

noncomputable def scan.Scan_int (t_ : RP) (cursor : Int) (count : Int) (mem : Reg) : Option (Int × (List (List UInt8)) × Reg) :=
 (scan.Scan_int.loop0 count t_ ⟨cursor, ([] : List (List UInt8)), 0, mem⟩).bind fun s131 =>
 some (s131.1, s131.2.1, s131.2.2)

noncomputable def scan.Pick_int (t_ : RP) (n_ : Int) (mem : Reg) : Option ((List UInt8) × Bool × Reg) :=
 (dict.Table_int.Keys t_ mem).bind fun r6 =>
 if (r6.1.length : Int) = 0 then
  some (([] : List UInt8), false, r6.2)
 else
  need (¬ (IntKind.wrap .u64 (r6.1.length : Int)) = 0) <|
  need (InB (n_.tmod (IntKind.wrap .u64 (r6.1.length : Int))) r6.1.length) <|
  some (ix r6.1 (n_.tmod (IntKind.wrap .u64 (r6.1.length : Int))), true, r6.2)

structure mewsref08.Has.S0 where
 i : Int

noncomputable def mewsref08.Has.body0 (l : List (List UInt8)) (s_ : List UInt8) (s61 : mewsref08.Has.S0) : Option (mewsref08.Has.S0 ⊕ (Unit ⊕ Bool)) :=
 if s61.i < (l.length : Int) then
  need (InB s61.i l.length) <|
  if (ix l s61.i) = s_ then
   some (.inr (.inr true))
  else
   some (.inl ⟨IntKind.wrap .i64 (s61.i + 1)⟩)
 else
  some (.inr (.inl ()))

noncomputable def mewsref08.Has.loop0 (l : List (List UInt8)) (s_ : List UInt8) (s61 : mewsref08.Has.S0) : Option (Unit ⊕ Bool) := whileO (mewsref08.Has.body0 l s_) s61

noncomputable def mewsref08.Has (l : List (List UInt8)) (s_ : List UInt8) : Option Bool :=
 (mewsref08.Has.loop0 l s_ ⟨0⟩).bind fun s68 => onSum s68 (fun s50 =>
  some false) fun s68x => some s68x

structure mewslaw08.alive.S0 where
 t13 : Int
 mem : Reg

noncomputable def mewslaw08.alive.body0 (r60 : RP × Reg) (s87 : mewslaw08.alive.S0) : Option (mewslaw08.alive.S0 ⊕ Reg) :=
 if s87.t13 < ([[97], [98], [99], [100], [101]].length : Int) then
  need (InB s87.t13 [[97], [98], [99], [100], [101]].length) <|
  (dict.Table_int.Put r60.1 (ix [[97], [98], [99], [100], [101]] s87.t13) s87.t13 s87.mem).bind fun r92 =>
  some (.inl ⟨IntKind.wrap .i64 (s87.t13 + 1), r92.2⟩)
 else
  some (.inr s87.mem)

noncomputable def mewslaw08.alive.loop0 (r60 : RP × Reg) (s87 : mewslaw08.alive.S0) : Option Reg := whileO (mewslaw08.alive.body0 r60) s87

noncomputable def mewslaw08.alive  : Option Bool :=
 (dict.New_int 1 ([] : Reg)).bind fun r60 =>
 (mewslaw08.alive.loop0 r60 ⟨0, r60.2⟩).bind fun s76 =>
 (scan.Scan_int r60.1 0 100 s76).bind fun r94 =>
 (scan.Pick_int r60.1 7 r94.2.2).bind fun r96 =>
 (dict.New_int 1 r96.2.2).bind fun r97 =>
 (scan.Scan_int r97.1 0 1 r97.2).bind fun r98 =>
 (
  if r94.1 = 0 then
   if (r94.2.1.length : Int) = 5 then
    (mewsref08.Has r94.2.1 [101]).bind fun r113 =>
    if r113 = true then
     if r96.2.1 = true then
      (mewsref08.Has r94.2.1 r96.1).bind fun r116 =>
      if r116 = true then
       if r98.1 = 0 then
        some (decide ((r98.2.1.length : Int) = 0))
       else
        some false
      else
       some false
     else
      some false
    else
     some false
   else
    some false
  else
   some false).bind fun s108 =>
 some s108

structure mewslaw08.far.S0 where
 t7 : Int

noncomputable def mewslaw08.far.body0 (l : List mewslaw07.Op) (s72 : mewslaw08.far.S0) : Option (mewslaw08.far.S0 ⊕ (Unit ⊕ Bool)) :=
 if s72.t7 < (l.length : Int) then
  need (InB s72.t7 l.length) <|
  if 200 < ((ix l s72.t7).Key.length : Int) then
   some (.inr (.inr true))
  else
   some (.inl ⟨IntKind.wrap .i64 (s72.t7 + 1)⟩)
 else
  some (.inr (.inl ()))

noncomputable def mewslaw08.far.loop0 (l : List mewslaw07.Op) (s72 : mewslaw08.far.S0) : Option (Unit ⊕ Bool) := whileO (mewslaw08.far.body0 l) s72

noncomputable def mewslaw08.far (l : List mewslaw07.Op) : Option Bool :=
 (mewslaw08.far.loop0 l ⟨0⟩).bind fun s80 => onSum s80 (fun s59 =>
  some (decide (300 < (l.length : Int)))) fun s80x => some s80x

noncomputable def mewslaw08.does (t_ : RP) (o_ : mewslaw07.Op) (mem : Reg) : Option Reg :=
 if o_.Kind = 0 then
  (dict.Table_int.Put t_ o_.Key o_.V mem).bind fun r8 =>
  some r8.2
 else
  if o_.Kind = 1 then
   (dict.Table_int.Drop t_ o_.Key mem).bind fun r9 =>
   some r9.2
  else
   (dict.Table_int.Step t_ o_.V mem).bind fun r10 =>
   some r10.2

structure mewslaw08.without.S0 where
 out : List (List UInt8)
 t10 : Int

noncomputable def mewslaw08.without.body0 (l : List (List UInt8)) (s_ : List UInt8) (s186 : mewslaw08.without.S0) : Option (mewslaw08.without.S0 ⊕ (List (List UInt8))) :=
 if s186.t10 < (l.length : Int) then
  (
   need (InB s186.t10 l.length) <|
   if (ix l s186.t10) = s_ then
    some s186.out
   else
    need ((s186.out.length + [ix l s186.t10].length) * 16 ≤ 140737488355328) <|
    some (s186.out ++ [ix l s186.t10])).bind fun s195 =>
  some (.inl ⟨s195, IntKind.wrap .i64 (s186.t10 + 1)⟩)
 else
  some (.inr s186.out)

noncomputable def mewslaw08.without.loop0 (l : List (List UInt8)) (s_ : List UInt8) (s186 : mewslaw08.without.S0) : Option (List (List UInt8)) := whileO (mewslaw08.without.body0 l s_) s186

noncomputable def mewslaw08.without (l : List (List UInt8)) (s_ : List UInt8) : Option (List (List UInt8)) :=
 (mewslaw08.without.loop0 l s_ ⟨([] : List (List UInt8)), 0⟩).bind fun s152 =>
 some s152

structure mewslaw08.ScanFinds.S0 where
 t32 : Int
 mem : Reg

noncomputable def mewslaw08.ScanFinds.body0 (ahead : List mewslaw07.Op) (r841 : RP × Reg) (s873 : mewslaw08.ScanFinds.S0) : Option (mewslaw08.ScanFinds.S0 ⊕ Reg) :=
 if s873.t32 < (ahead.length : Int) then
  need (InB s873.t32 ahead.length) <|
  (mewslaw08.does r841.1 (ix ahead s873.t32) s873.mem).bind fun r879 =>
  some (.inl ⟨IntKind.wrap .i64 (s873.t32 + 1), r879⟩)
 else
  some (.inr s873.mem)

noncomputable def mewslaw08.ScanFinds.loop0 (ahead : List mewslaw07.Op) (r841 : RP × Reg) (s873 : mewslaw08.ScanFinds.S0) : Option Reg := whileO (mewslaw08.ScanFinds.body0 ahead r841) s873

structure mewslaw08.ScanFinds.S2 where
 stay : List (List UInt8)
 told : List (List UInt8)
 cursor : Int
 t42 : Int
 mem : Reg

structure mewslaw08.ScanFinds.S4 where
 t55 : Int

noncomputable def mewslaw08.ScanFinds.body4 (r1554 : Int × (List (List UInt8)) × Reg) (r1556 : (List (List UInt8)) × Reg) (s1589 : mewslaw08.ScanFinds.S4) : Option (mewslaw08.ScanFinds.S4 ⊕ (Unit ⊕ (((List (List UInt8)) × (List (List UInt8)) × Int × Reg) ⊕ (mewslaw08.ScanFinds.S2 ⊕ (((List (List UInt8)) × (List (List UInt8)) × Int × Reg) ⊕ Bool))))) :=
 if s1589.t55 < (r1554.2.1.length : Int) then
  need (InB s1589.t55 r1554.2.1.length) <|
  (mewsref08.Has r1556.1 (ix r1554.2.1 s1589.t55)).bind fun r1594 =>
  if (!r1594) = true then
   some (.inr (.inr (.inr (.inr (.inr false)))))
  else
   some (.inl ⟨IntKind.wrap .i64 (s1589.t55 + 1)⟩)
 else
  some (.inr (.inl ()))

noncomputable def mewslaw08.ScanFinds.loop4 (r1554 : Int × (List (List UInt8)) × Reg) (r1556 : (List (List UInt8)) × Reg) (s1589 : mewslaw08.ScanFinds.S4) : Option (Unit ⊕ (((List (List UInt8)) × (List (List UInt8)) × Int × Reg) ⊕ (mewslaw08.ScanFinds.S2 ⊕ (((List (List UInt8)) × (List (List UInt8)) × Int × Reg) ⊕ Bool)))) := whileO (mewslaw08.ScanFinds.body4 r1554 r1556) s1589

noncomputable def mewslaw08.ScanFinds.body2 (r841 : RP × Reg) (between : List mewslaw07.Op) (s1488 : mewslaw08.ScanFinds.S2) : Option (mewslaw08.ScanFinds.S2 ⊕ (((List (List UInt8)) × (List (List UInt8)) × Int × Reg) ⊕ Bool)) :=
 if s1488.t42 < 100000 then
  (
   (scan.Turn_int r841.1 s1488.cursor s1488.mem).bind fun r1554 =>
   (dict.Table_int.Keys r841.1 r1554.2.2).bind fun r1556 =>
   (mewslaw08.ScanFinds.loop4 r1554 r1556 ⟨0⟩).bind fun s1608 => onSum s1608 (fun s1576 =>
    need ((s1488.told.length + r1554.2.1.length) * 16 ≤ 140737488355328) <|
    if r1554.1 = 0 then
     some (.inr (.inr (.inl (s1488.stay, s1488.told ++ r1554.2.1, r1554.1, r1556.2))))
    else
     if s1488.t42 < (between.length : Int) then
      need (InB s1488.t42 between.length) <|
      (mewslaw08.does r841.1 (ix between s1488.t42) r1556.2).bind fun r1600 =>
      need (InB s1488.t42 between.length) <|
      if (ix between s1488.t42).Kind = 1 then
       need (InB s1488.t42 between.length) <|
       (mewslaw08.without s1488.stay (ix between s1488.t42).Key).bind fun r1603 =>
       some (.inl (r1603, s1488.told ++ r1554.2.1, r1554.1, r1600))
      else
       some (.inl (s1488.stay, s1488.told ++ r1554.2.1, r1554.1, r1600))
     else
      some (.inl (s1488.stay, s1488.told ++ r1554.2.1, r1554.1, r1556.2))) fun s1608x => some s1608x).bind fun s1609 => onSum s1609 (fun s1549 =>
   some (.inl ⟨s1549.1, s1549.2.1, s1549.2.2.1, IntKind.wrap .i64 (s1488.t42 + 1), s1549.2.2.2⟩)) fun s1609x => some s1609x
 else
  some (.inr (.inl (s1488.stay, s1488.told, s1488.cursor, s1488.mem)))

noncomputable def mewslaw08.ScanFinds.loop2 (r841 : RP × Reg) (between : List mewslaw07.Op) (s1488 : mewslaw08.ScanFinds.S2) : Option (((List (List UInt8)) × (List (List UInt8)) × Int × Reg) ⊕ Bool) := whileO (mewslaw08.ScanFinds.body2 r841 between) s1488

structure mewslaw08.ScanFinds.S6 where
 t96 : Int

noncomputable def mewslaw08.ScanFinds.body6 (s1245 : (List (List UInt8)) × (List (List UInt8)) × Int × Reg) (s1643 : mewslaw08.ScanFinds.S6) : Option (mewslaw08.ScanFinds.S6 ⊕ (Unit ⊕ Bool)) :=
 if s1643.t96 < (s1245.1.length : Int) then
  need (InB s1643.t96 s1245.1.length) <|
  (mewsref08.Has s1245.2.1 (ix s1245.1 s1643.t96)).bind fun r1648 =>
  if (!r1648) = true then
   some (.inr (.inr false))
  else
   some (.inl ⟨IntKind.wrap .i64 (s1643.t96 + 1)⟩)
 else
  some (.inr (.inl ()))

noncomputable def mewslaw08.ScanFinds.loop6 (s1245 : (List (List UInt8)) × (List (List UInt8)) × Int × Reg) (s1643 : mewslaw08.ScanFinds.S6) : Option (Unit ⊕ Bool) := whileO (mewslaw08.ScanFinds.body6 s1245) s1643

noncomputable def mewslaw08.ScanFinds (seed : Int) (ahead : List mewslaw07.Op) (between : List mewslaw07.Op) : Option Bool :=
 (
  (mewslaw08.far ahead).bind fun r837 =>
  if r837 = true then
   some true
  else
   (mewslaw08.far between).bind fun r839 =>
   some r839).bind fun s834 =>
 if s834 = true then
  (mewslaw08.alive).bind fun r840 =>
  some r840
 else
  (dict.New_int seed ([] : Reg)).bind fun r841 =>
  (mewslaw08.ScanFinds.loop0 ahead r841 ⟨0, r841.2⟩).bind fun s860 =>
  (dict.Table_int.Keys r841.1 s860).bind fun r881 =>
  (mewslaw08.ScanFinds.loop2 r841 between ⟨r881.1, ([] : List (List UInt8)), 0, 0, r881.2⟩).bind fun s1659 => onSum s1659 (fun s1245 =>
   (mewslaw08.ScanFinds.loop6 s1245 ⟨0⟩).bind fun s1658 => onSum s1658 (fun s1630 =>
    (
     if s1245.2.2.1 = 0 then
      (mewslaw08.alive).bind fun r1657 =>
      some r1657
     else
      some false).bind fun s1653 =>
    some s1653) fun s1658x => some s1658x) fun s1659x => some s1659x

structure mewslaw08.ScanOnce.S0 where
 t23 : Int
 mem : Reg

noncomputable def mewslaw08.ScanOnce.body0 (l : List mewslaw07.Op) (r157 : RP × Reg) (s189 : mewslaw08.ScanOnce.S0) : Option (mewslaw08.ScanOnce.S0 ⊕ Reg) :=
 if s189.t23 < (l.length : Int) then
  need (InB s189.t23 l.length) <|
  (mewslaw08.does r157.1 (ix l s189.t23) s189.mem).bind fun r195 =>
  some (.inl ⟨IntKind.wrap .i64 (s189.t23 + 1), r195⟩)
 else
  some (.inr s189.mem)

noncomputable def mewslaw08.ScanOnce.loop0 (l : List mewslaw07.Op) (r157 : RP × Reg) (s189 : mewslaw08.ScanOnce.S0) : Option Reg := whileO (mewslaw08.ScanOnce.body0 l r157) s189

structure mewslaw08.ScanOnce.S2 where
 told : List (List UInt8)
 cursor : Int
 t36 : Int
 mem : Reg

noncomputable def mewslaw08.ScanOnce.body2 (r157 : RP × Reg) (count : Int) (s243 : mewslaw08.ScanOnce.S2) : Option (mewslaw08.ScanOnce.S2 ⊕ ((List (List UInt8)) × Int × Reg)) :=
 if s243.t36 < 100000 then
  (scan.Scan_int r157.1 s243.cursor (IntKind.wrap .i64 ((IntKind.wrap .i64 ((IntKind.wrap .u64 count).tmod 50)) + 1)) s243.mem).bind fun r248 =>
  need ((s243.told.length + r248.2.1.length) * 16 ≤ 140737488355328) <|
  if r248.1 = 0 then
   some (.inr (s243.told ++ r248.2.1, r248.1, r248.2.2))
  else
   some (.inl ⟨s243.told ++ r248.2.1, r248.1, IntKind.wrap .i64 (s243.t36 + 1), r248.2.2⟩)
 else
  some (.inr (s243.told, s243.cursor, s243.mem))

noncomputable def mewslaw08.ScanOnce.loop2 (r157 : RP × Reg) (count : Int) (s243 : mewslaw08.ScanOnce.S2) : Option ((List (List UInt8)) × Int × Reg) := whileO (mewslaw08.ScanOnce.body2 r157 count) s243

structure mewslaw08.ScanOnce.S4 where
 t64 : Int

noncomputable def mewslaw08.ScanOnce.body4 (r285 : (List (List UInt8)) × Reg) (s224 : (List (List UInt8)) × Int × Reg) (s297 : mewslaw08.ScanOnce.S4) : Option (mewslaw08.ScanOnce.S4 ⊕ (Reg ⊕ Bool)) :=
 if s297.t64 < (r285.1.length : Int) then
  need (InB s297.t64 r285.1.length) <|
  (mewsref08.Has s224.1 (ix r285.1 s297.t64)).bind fun r302 =>
  if (!r302) = true then
   some (.inr (.inr false))
  else
   some (.inl ⟨IntKind.wrap .i64 (s297.t64 + 1)⟩)
 else
  some (.inr (.inl r285.2))

noncomputable def mewslaw08.ScanOnce.loop4 (r285 : (List (List UInt8)) × Reg) (s224 : (List (List UInt8)) × Int × Reg) (s297 : mewslaw08.ScanOnce.S4) : Option (Reg ⊕ Bool) := whileO (mewslaw08.ScanOnce.body4 r285 s224) s297

noncomputable def mewslaw08.ScanOnce (seed : Int) (l : List mewslaw07.Op) (count : Int) : Option Bool :=
 (mewslaw08.far l).bind fun r155 =>
 if r155 = true then
  (mewslaw08.alive).bind fun r156 =>
  some r156
 else
  (dict.New_int seed ([] : Reg)).bind fun r157 =>
  (mewslaw08.ScanOnce.loop0 l r157 ⟨0, r157.2⟩).bind fun s176 =>
  (mewslaw08.ScanOnce.loop2 r157 count ⟨([] : List (List UInt8)), 0, 0, s176⟩).bind fun s224 =>
  (
   if s224.2.1 = 0 then
    (dict.Table_int.Len r157.1 s224.2.2).bind fun r261 =>
    some (!decide ((s224.1.length : Int) = r261))
   else
    some true).bind fun s257 =>
  if s257 = true then
   some false
  else
   (
    (dict.Table_int.Keys r157.1 s224.2.2).bind fun r285 =>
    mewslaw08.ScanOnce.loop4 r285 s224 ⟨0⟩).bind fun s306 => onSum s306 (fun s282 =>
    (mewslaw08.alive).bind fun r305 =>
    some r305) fun s306x => some s306x

end Go.Pu
