/- Printed by lift.py: the same functions, with rounds that are counted. -/
import Derived.Test.YtahccieomaopeaaSCP
set_option maxRecDepth 100000
set_option maxHeartbeats 0
namespace Go.Pu
open Go.Lift

def dict.empty_int.c (k : Nat) (size : Int) (mem : Reg) : Option (dict.places_int × Reg) :=
 need ((0 : Int) ≤ size) <|
 need (Room (IntKind.wrap .i64 (1 * 2 ^ min (Int.toNat size) (IntKind.bits .i64))) 8) <|
 letO (mem ++ [List.replicate (Int.toNat (IntKind.wrap .i64 (1 * 2 ^ min (Int.toNat size) (IntKind.bits .i64)))) (.pt (none : RP))]) fun x8 =>
 some (({ size := size, l := (some (mem.length, 0, Int.toNat (IntKind.wrap .i64 (1 * 2 ^ min (Int.toNat size) (IntKind.bits .i64))), Int.toNat (IntKind.wrap .i64 (1 * 2 ^ min (Int.toNat size) (IntKind.bits .i64)))) : RS) } : dict.places_int), x8)

theorem dict.empty_int.c_le (k : Nat) (size : Int) (mem : Reg) : OLe (dict.empty_int.c k size mem) (dict.empty_int size mem) := by
 unfold dict.empty_int.c dict.empty_int
 repeat' with_reducible first | exact OLe.refl _ | apply OLe.bind | apply OLe.need | apply OLe.letO | apply OLe.onSum | apply OLe.ite | intro _

def dict.New_int.c (k : Nat) (seed : Int) (mem : Reg) : Option (RP × Reg) :=
 (dict.empty_int.c k 2 mem).bind fun r3 =>
 letO (r3.2 ++ [[.it .u64 seed, .it .i64 r3.1.size, .sc r3.1.l, .it .i64 0, .sc (none : RS), .it .i64 0, .bo false, .it .i64 0]]) fun x4 =>
 some ((some (r3.2.length, 0) : RP), x4)

theorem dict.New_int.c_le (k : Nat) (seed : Int) (mem : Reg) : OLe (dict.New_int.c k seed mem) (dict.New_int seed mem) := by
 unfold dict.New_int.c dict.New_int
 repeat' with_reducible first | exact OLe.refl _ | apply dict.empty_int.c_le | apply OLe.bind | apply OLe.need | apply OLe.letO | apply OLe.onSum | apply OLe.ite | intro _

def dict.Table_int.Moved.c (k : Nat) (t_ : RP) (mem : Reg) : Option Int :=
 (
  if t_.isNone = true then
   some true
  else
   need (t_.isSome = true) <|
   (rLdB mem (rpAdd t_ 6)).bind fun r21 =>
   some (!r21)).bind fun s16 =>
 if s16 = true then
  some (-1)
 else
  need (t_.isSome = true) <|
  (rLdI .i64 mem (rpAdd t_ 5)).bind fun r23 =>
  some r23

theorem dict.Table_int.Moved.c_le (k : Nat) (t_ : RP) (mem : Reg) : OLe (dict.Table_int.Moved.c k t_ mem) (dict.Table_int.Moved t_ mem) := by
 unfold dict.Table_int.Moved.c dict.Table_int.Moved
 repeat' with_reducible first | exact OLe.refl _ | apply OLe.bind | apply OLe.need | apply OLe.letO | apply OLe.onSum | apply OLe.ite | intro _

def dict.Table_int.ready.c (k : Nat) (t_ : RP) (mem : Reg) : Option (Bool × Reg) :=
 (
  (
   if t_.isSome = true then
    need (t_.isSome = true) <|
    need ((rpAdd t_ 1).isSome = true) <|
    need (InB 0 2) <|
    need ((rpAdd (rpAdd t_ 1) 0).isSome = true) <|
    (rLdL mem (rpAdd (rpAdd (rpAdd t_ 1) 0) 1)).bind fun r108 =>
    some r108.isNone
   else
    some false).bind fun s100 =>
  if s100 = true then
   need (t_.isSome = true) <|
   (rLdI .u64 mem (rpAdd t_ 0)).bind fun r110 =>
   (dict.New_int.c k r110 mem).bind fun r111 =>
   need (r111.1.isSome = true) <|
   (rLdI .u64 r111.2 (rpAdd r111.1 0)).bind fun r113 =>
   (rLdI .i64 r111.2 (rpAdd r111.1 1)).bind fun r114 =>
   (rLdL r111.2 (rpAdd r111.1 2)).bind fun r115 =>
   (rLdI .i64 r111.2 (rpAdd r111.1 3)).bind fun r116 =>
   (rLdL r111.2 (rpAdd r111.1 4)).bind fun r117 =>
   (rLdI .i64 r111.2 (rpAdd r111.1 5)).bind fun r118 =>
   (rLdB r111.2 (rpAdd r111.1 6)).bind fun r119 =>
   (rLdI .i64 r111.2 (rpAdd r111.1 7)).bind fun r120 =>
   (rSto r111.2 t_ [.it .u64 r113, .it .i64 r114, .sc r115, .it .i64 r116, .sc r117, .it .i64 r118, .bo r119, .it .i64 r120]).bind fun r121 =>
   some r121
  else
   some mem).bind fun s91 =>
 some (t_.isSome, s91)

theorem dict.Table_int.ready.c_le (k : Nat) (t_ : RP) (mem : Reg) : OLe (dict.Table_int.ready.c k t_ mem) (dict.Table_int.ready t_ mem) := by
 unfold dict.Table_int.ready.c dict.Table_int.ready
 repeat' with_reducible first | exact OLe.refl _ | apply dict.New_int.c_le | apply OLe.bind | apply OLe.need | apply OLe.letO | apply OLe.onSum | apply OLe.ite | intro _

def hash.Of.body0.c (k : Nat) (s_ : List UInt8) (s86 : hash.Of.S0) : Option (hash.Of.S0 ⊕ Int) :=
 if s86.t13 < (s_.length : Int) then
  need (InB s86.t13 s_.length) <|
  some (.inl ⟨IntKind.wrap .u64 ((Go.bits .xor .u64 s86.h (IntKind.wrap .u64 (bix s_ s86.t13))) * 1099511628211), IntKind.wrap .i64 (s86.t13 + 1)⟩)
 else
  some (.inr s86.h)

theorem hash.Of.body0.c_le (k : Nat) (s_ : List UInt8) (s86 : hash.Of.S0) : OLe (hash.Of.body0.c k s_ s86) (hash.Of.body0 s_ s86) := by
 unfold hash.Of.body0.c hash.Of.body0
 repeat' with_reducible first | exact OLe.refl _ | apply OLe.bind | apply OLe.need | apply OLe.letO | apply OLe.onSum | apply OLe.ite | intro _

def hash.Of.loop0.c (k : Nat) (s_ : List UInt8) (s86 : hash.Of.S0) : Option Int := iterO (hash.Of.body0.c k s_) k s86

theorem hash.Of.loop0.c_le (k : Nat) (s_ : List UInt8) (s86 : hash.Of.S0) : OLe (hash.Of.loop0.c k s_ s86) (hash.Of.loop0 s_ s86) := by
 unfold hash.Of.loop0.c hash.Of.loop0
 exact OLe.iter (fun s => hash.Of.body0.c_le k s_ s) k _

def hash.Of.body2.c (k : Nat)  (s118 : hash.Of.S2) : Option (hash.Of.S2 ⊕ Int) :=
 if s118.t25 < 3 then
  need (InB s118.t25 3) <|
  letO (IntKind.wrap .u64 ((Go.bits .xor .u64 s118.h (s118.h / 2 ^ min (Int.toNat 33) (IntKind.bits .u64))) * (ix ([18397679294719823053, 14181476777654086739, 1] : List Int) s118.t25))) fun x123 =>
  some (.inl ⟨x123, IntKind.wrap .i64 (s118.t25 + 1)⟩)
 else
  some (.inr s118.h)

theorem hash.Of.body2.c_le (k : Nat)  (s118 : hash.Of.S2) : OLe (hash.Of.body2.c k s118) (hash.Of.body2 s118) := by
 unfold hash.Of.body2.c hash.Of.body2
 repeat' with_reducible first | exact OLe.refl _ | apply OLe.bind | apply OLe.need | apply OLe.letO | apply OLe.onSum | apply OLe.ite | intro _

def hash.Of.loop2.c (k : Nat)  (s118 : hash.Of.S2) : Option Int := iterO (hash.Of.body2.c k ) k s118

theorem hash.Of.loop2.c_le (k : Nat)  (s118 : hash.Of.S2) : OLe (hash.Of.loop2.c k s118) (hash.Of.loop2 s118) := by
 unfold hash.Of.loop2.c hash.Of.loop2
 exact OLe.iter (fun s => hash.Of.body2.c_le k  s) k _

def hash.Of.c (k : Nat) (seed : Int) (s_ : List UInt8) : Option Int :=
 (hash.Of.loop0.c k s_ ⟨Go.bits .xor .u64 14695981039346656037 seed, 0⟩).bind fun s76 =>
 (hash.Of.loop2.c k  ⟨s76, 0⟩).bind fun s107 =>
 some s107

theorem hash.Of.c_le (k : Nat) (seed : Int) (s_ : List UInt8) : OLe (hash.Of.c k seed s_) (hash.Of seed s_) := by
 unfold hash.Of.c hash.Of
 repeat' with_reducible first | exact OLe.refl _ | apply hash.Of.loop0.c_le | apply hash.Of.loop2.c_le | apply OLe.bind | apply OLe.need | apply OLe.letO | apply OLe.onSum | apply OLe.ite | intro _

def hash.size.c (k : Nat) (b : Int) : Option Int :=
 some (if 16 < (if b < 0 then 0 else b) then 16 else (if b < 0 then 0 else b))

theorem hash.size.c_le (k : Nat) (b : Int) : OLe (hash.size.c k b) (hash.size b) := by
 unfold hash.size.c hash.size
 repeat' with_reducible first | exact OLe.refl _ | apply OLe.bind | apply OLe.need | apply OLe.letO | apply OLe.onSum | apply OLe.ite | intro _

def hash.low.c (k : Nat) (n_ : Int) (b : Int) : Option Int :=
 (hash.size.c k b).bind fun r3 =>
 need ((0 : Int) ≤ r3) <|
 some (Go.bits .and .u64 n_ (IntKind.wrap .u64 ((IntKind.wrap .u64 (1 * 2 ^ min (Int.toNat r3) (IntKind.bits .u64))) - 1)))

theorem hash.low.c_le (k : Nat) (n_ : Int) (b : Int) : OLe (hash.low.c k n_ b) (hash.low n_ b) := by
 unfold hash.low.c hash.low
 repeat' with_reducible first | exact OLe.refl _ | apply hash.size.c_le | apply OLe.bind | apply OLe.need | apply OLe.letO | apply OLe.onSum | apply OLe.ite | intro _

def hash.Place.c (k : Nat) (h_ : Int) (b : Int) : Option Int :=
 (hash.low.c k h_ b).bind fun r2 =>
 some (IntKind.wrap .i64 r2)

theorem hash.Place.c_le (k : Nat) (h_ : Int) (b : Int) : OLe (hash.Place.c k h_ b) (hash.Place h_ b) := by
 unfold hash.Place.c hash.Place
 repeat' with_reducible first | exact OLe.refl _ | apply hash.low.c_le | apply OLe.bind | apply OLe.need | apply OLe.letO | apply OLe.onSum | apply OLe.ite | intro _

def dict.Table_int.slot.c (k : Nat) (t_ : RP) (k_ : Int) (key : List UInt8) (mem : Reg) : Option RP :=
 need (t_.isSome = true) <|
 need ((rpAdd t_ 1).isSome = true) <|
 need (InB k_ 2) <|
 need ((rpAdd (rpAdd t_ 1) (Int.toNat k_ * 2)).isSome = true) <|
 (rLdL mem (rpAdd (rpAdd (rpAdd t_ 1) (Int.toNat k_ * 2)) 1)).bind fun r15 =>
 (rLdI .u64 mem (rpAdd t_ 0)).bind fun r16 =>
 (hash.Of.c k r16 key).bind fun r17 =>
 (rLdI .i64 mem (rpAdd (rpAdd (rpAdd t_ 1) (Int.toNat k_ * 2)) 0)).bind fun r18 =>
 (hash.Place.c k r17 r18).bind fun r19 =>
 need (InB r19 (rsLen r15)) <|
 some (rsPtr r15 r19 1)

theorem dict.Table_int.slot.c_le (k : Nat) (t_ : RP) (k_ : Int) (key : List UInt8) (mem : Reg) : OLe (dict.Table_int.slot.c k t_ k_ key mem) (dict.Table_int.slot t_ k_ key mem) := by
 unfold dict.Table_int.slot.c dict.Table_int.slot
 repeat' with_reducible first | exact OLe.refl _ | apply hash.Of.c_le | apply hash.Place.c_le | apply OLe.bind | apply OLe.need | apply OLe.letO | apply OLe.onSum | apply OLe.ite | intro _

def dict.Table_int.front.c (k : Nat) (t_ : RP) (k_ : Int) (x_ : RP) (mem : Reg) : Option Reg :=
 need (x_.isSome = true) <|
 (rLdS mem (rpAdd x_ 0)).bind fun r9 =>
 (dict.Table_int.slot.c k t_ k_ r9 mem).bind fun r10 =>
 need (r10.isSome = true) <|
 (rLdP mem r10).bind fun r12 =>
 (rSto mem (rpAdd x_ 2) [.pt r12]).bind fun r13 =>
 (rSto r13 r10 [.pt x_]).bind fun r14 =>
 some r14

theorem dict.Table_int.front.c_le (k : Nat) (t_ : RP) (k_ : Int) (x_ : RP) (mem : Reg) : OLe (dict.Table_int.front.c k t_ k_ x_ mem) (dict.Table_int.front t_ k_ x_ mem) := by
 unfold dict.Table_int.front.c dict.Table_int.front
 repeat' with_reducible first | exact OLe.refl _ | apply dict.Table_int.slot.c_le | apply OLe.bind | apply OLe.need | apply OLe.letO | apply OLe.onSum | apply OLe.ite | intro _

def dict.Table_int.step.body0.c (k : Nat) (t_ : RP) (s133 : dict.Table_int.step.S0) : Option (dict.Table_int.step.S0 ⊕ Reg) :=
 if s133.x.isSome = true then
  need (s133.x.isSome = true) <|
  (rLdP s133.mem (rpAdd s133.x 2)).bind fun r138 =>
  (dict.Table_int.front.c k t_ 1 s133.x s133.mem).bind fun r139 =>
  some (.inl ⟨r138, r139⟩)
 else
  some (.inr s133.mem)

theorem dict.Table_int.step.body0.c_le (k : Nat) (t_ : RP) (s133 : dict.Table_int.step.S0) : OLe (dict.Table_int.step.body0.c k t_ s133) (dict.Table_int.step.body0 t_ s133) := by
 unfold dict.Table_int.step.body0.c dict.Table_int.step.body0
 repeat' with_reducible first | exact OLe.refl _ | apply dict.Table_int.front.c_le | apply OLe.bind | apply OLe.need | apply OLe.letO | apply OLe.onSum | apply OLe.ite | intro _

def dict.Table_int.step.loop0.c (k : Nat) (t_ : RP) (s133 : dict.Table_int.step.S0) : Option Reg := iterO (dict.Table_int.step.body0.c k t_) k s133

theorem dict.Table_int.step.loop0.c_le (k : Nat) (t_ : RP) (s133 : dict.Table_int.step.S0) : OLe (dict.Table_int.step.loop0.c k t_ s133) (dict.Table_int.step.loop0 t_ s133) := by
 unfold dict.Table_int.step.loop0.c dict.Table_int.step.loop0
 exact OLe.iter (fun s => dict.Table_int.step.body0.c_le k t_ s) k _

def dict.Table_int.step.c (k : Nat) (t_ : RP) (mem : Reg) : Option (Bool × Reg) :=
 need (t_.isSome = true) <|
 (rLdB mem (rpAdd t_ 6)).bind fun r89 =>
 if (!r89) = true then
  some (false, mem)
 else
  need ((rpAdd t_ 1).isSome = true) <|
  need (InB 0 2) <|
  need ((rpAdd (rpAdd t_ 1) 0).isSome = true) <|
  (rLdL mem (rpAdd (rpAdd (rpAdd t_ 1) 0) 1)).bind fun r93 =>
  (rLdI .i64 mem (rpAdd t_ 5)).bind fun r94 =>
  need (InB r94 (rsLen r93)) <|
  (rLdP mem (rsPtr r93 r94 1)).bind fun r96 =>
  need (InB 0 2) <|
  (rLdL mem (rpAdd (rpAdd (rpAdd t_ 1) 0) 1)).bind fun r98 =>
  (rLdI .i64 mem (rpAdd t_ 5)).bind fun r99 =>
  need (InB r99 (rsLen r98)) <|
  (rSto mem (rsPtr r98 r99 1) [.pt (none : RP)]).bind fun r101 =>
  (dict.Table_int.step.loop0.c k t_ ⟨r96, r101⟩).bind fun s120 =>
  (
   need (t_.isSome = true) <|
   (rLdI .i64 s120 (rpAdd t_ 5)).bind fun r160 =>
   (rSto s120 (rpAdd t_ 5) [.it .i64 (IntKind.wrap .i64 (r160 + 1))]).bind fun r161 =>
   (rLdI .i64 r161 (rpAdd t_ 5)).bind fun r162 =>
   need ((rpAdd t_ 1).isSome = true) <|
   need (InB 0 2) <|
   need ((rpAdd (rpAdd t_ 1) 0).isSome = true) <|
   (rLdL r161 (rpAdd (rpAdd (rpAdd t_ 1) 0) 1)).bind fun r166 =>
   if r162 = (rsLen r166 : Int) then
    need (InB 1 2) <|
    (rLdI .i64 r161 (rpAdd (rpAdd (rpAdd t_ 1) 2) 0)).bind fun r168 =>
    (rLdL r161 (rpAdd (rpAdd (rpAdd t_ 1) 2) 1)).bind fun r169 =>
    (rSto r161 (rpAdd t_ 1) [.it .i64 r168, .sc r169, .it .i64 0, .sc (none : RS)]).bind fun r170 =>
    (rSto r170 (rpAdd t_ 6) [.bo false]).bind fun r171 =>
    (rSto r171 (rpAdd t_ 5) [.it .i64 0]).bind fun r172 =>
    some r172
   else
    some r161).bind fun s156 =>
  some (true, s156)

theorem dict.Table_int.step.c_le (k : Nat) (t_ : RP) (mem : Reg) : OLe (dict.Table_int.step.c k t_ mem) (dict.Table_int.step t_ mem) := by
 unfold dict.Table_int.step.c dict.Table_int.step
 repeat' with_reducible first | exact OLe.refl _ | apply dict.Table_int.step.loop0.c_le | apply OLe.bind | apply OLe.need | apply OLe.letO | apply OLe.onSum | apply OLe.ite | intro _

def dict.Table_int.find.body2.c (k : Nat) (mem : Reg) (key : List UInt8) (s1132 : dict.Table_int.find.S2) : Option (dict.Table_int.find.S2 ⊕ (Unit ⊕ (dict.Table_int.find.S0 ⊕ (Unit ⊕ RP)))) :=
 need (s1132.at_.isSome = true) <|
 (rLdP mem s1132.at_).bind fun r1137 =>
 if r1137.isSome = true then
  (rLdP mem s1132.at_).bind fun r1138 =>
  need (r1138.isSome = true) <|
  (rLdS mem (rpAdd r1138 0)).bind fun r1140 =>
  if r1140 = key then
   some (.inr (.inr (.inr (.inr s1132.at_))))
  else
   (rLdP mem s1132.at_).bind fun r1141 =>
   need (r1141.isSome = true) <|
   some (.inl ⟨rpAdd r1141 2⟩)
 else
  some (.inr (.inl ()))

theorem dict.Table_int.find.body2.c_le (k : Nat) (mem : Reg) (key : List UInt8) (s1132 : dict.Table_int.find.S2) : OLe (dict.Table_int.find.body2.c k mem key s1132) (dict.Table_int.find.body2 mem key s1132) := by
 unfold dict.Table_int.find.body2.c dict.Table_int.find.body2
 repeat' with_reducible first | exact OLe.refl _ | apply OLe.bind | apply OLe.need | apply OLe.letO | apply OLe.onSum | apply OLe.ite | intro _

def dict.Table_int.find.loop2.c (k : Nat) (mem : Reg) (key : List UInt8) (s1132 : dict.Table_int.find.S2) : Option (Unit ⊕ (dict.Table_int.find.S0 ⊕ (Unit ⊕ RP))) := iterO (dict.Table_int.find.body2.c k mem key) k s1132

theorem dict.Table_int.find.loop2.c_le (k : Nat) (mem : Reg) (key : List UInt8) (s1132 : dict.Table_int.find.S2) : OLe (dict.Table_int.find.loop2.c k mem key s1132) (dict.Table_int.find.loop2 mem key s1132) := by
 unfold dict.Table_int.find.loop2.c dict.Table_int.find.loop2
 exact OLe.iter (fun s => dict.Table_int.find.body2.c_le k mem key s) k _

def dict.Table_int.find.body0.c (k : Nat) (t_ : RP) (mem : Reg) (key : List UInt8) (s1051 : dict.Table_int.find.S0) : Option (dict.Table_int.find.S0 ⊕ (Unit ⊕ RP)) :=
 if s1051.t7 < 2 then
  (
   (
    if s1051.t7 = 1 then
     need (t_.isSome = true) <|
     (rLdB mem (rpAdd t_ 6)).bind fun r1110 =>
     some (!r1110)
    else
     some false).bind fun s1105 =>
   if s1105 = true then
    some (.inr (.inr (.inl ())))
   else
    (dict.Table_int.slot.c k t_ s1051.t7 key mem).bind fun r1111 =>
    dict.Table_int.find.loop2.c k mem key ⟨r1111⟩).bind fun s1146 => onSum s1146 (fun s1099 =>
   some (.inl ⟨IntKind.wrap .i64 (s1051.t7 + 1)⟩)) fun s1146x => some s1146x
 else
  some (.inr (.inl ()))

theorem dict.Table_int.find.body0.c_le (k : Nat) (t_ : RP) (mem : Reg) (key : List UInt8) (s1051 : dict.Table_int.find.S0) : OLe (dict.Table_int.find.body0.c k t_ mem key s1051) (dict.Table_int.find.body0 t_ mem key s1051) := by
 unfold dict.Table_int.find.body0.c dict.Table_int.find.body0
 repeat' with_reducible first | exact OLe.refl _ | apply dict.Table_int.slot.c_le | apply dict.Table_int.find.loop2.c_le | apply OLe.bind | apply OLe.need | apply OLe.letO | apply OLe.onSum | apply OLe.ite | intro _

def dict.Table_int.find.loop0.c (k : Nat) (t_ : RP) (mem : Reg) (key : List UInt8) (s1051 : dict.Table_int.find.S0) : Option (Unit ⊕ RP) := iterO (dict.Table_int.find.body0.c k t_ mem key) k s1051

theorem dict.Table_int.find.loop0.c_le (k : Nat) (t_ : RP) (mem : Reg) (key : List UInt8) (s1051 : dict.Table_int.find.S0) : OLe (dict.Table_int.find.loop0.c k t_ mem key s1051) (dict.Table_int.find.loop0 t_ mem key s1051) := by
 unfold dict.Table_int.find.loop0.c dict.Table_int.find.loop0
 exact OLe.iter (fun s => dict.Table_int.find.body0.c_le k t_ mem key s) k _

def dict.Table_int.find.c (k : Nat) (t_ : RP) (key : List UInt8) (mem : Reg) : Option RP :=
 (dict.Table_int.find.loop0.c k t_ mem key ⟨0⟩).bind fun s1148 => onSum s1148 (fun s860 =>
  some (none : RP)) fun s1148x => some s1148x

theorem dict.Table_int.find.c_le (k : Nat) (t_ : RP) (key : List UInt8) (mem : Reg) : OLe (dict.Table_int.find.c k t_ key mem) (dict.Table_int.find t_ key mem) := by
 unfold dict.Table_int.find.c dict.Table_int.find
 repeat' with_reducible first | exact OLe.refl _ | apply dict.Table_int.find.loop0.c_le | apply OLe.bind | apply OLe.need | apply OLe.letO | apply OLe.onSum | apply OLe.ite | intro _

def dict.Table_int.part.c (k : Nat) (t_ : RP) (size : Int) (mem : Reg) : Option Reg :=
 (dict.empty_int.c k size mem).bind fun r8 =>
 need (t_.isSome = true) <|
 need ((rpAdd t_ 1).isSome = true) <|
 need (InB 1 2) <|
 (rSto r8.2 (rpAdd (rpAdd t_ 1) 2) [.it .i64 r8.1.size, .sc r8.1.l]).bind fun r12 =>
 (rSto r12 (rpAdd t_ 6) [.bo true]).bind fun r13 =>
 (rSto r13 (rpAdd t_ 5) [.it .i64 0]).bind fun r14 =>
 some r14

theorem dict.Table_int.part.c_le (k : Nat) (t_ : RP) (size : Int) (mem : Reg) : OLe (dict.Table_int.part.c k t_ size mem) (dict.Table_int.part t_ size mem) := by
 unfold dict.Table_int.part.c dict.Table_int.part
 repeat' with_reducible first | exact OLe.refl _ | apply dict.empty_int.c_le | apply OLe.bind | apply OLe.need | apply OLe.letO | apply OLe.onSum | apply OLe.ite | intro _

def dict.Table_int.Put.c (k : Nat) (t_ : RP) (key : List UInt8) (v_ : Int) (mem : Reg) : Option (Bool × Reg) :=
 (dict.Table_int.ready.c k t_ mem).bind fun r63 =>
 if (!r63.1) = true then
  some (false, r63.2)
 else
  (dict.Table_int.step.c k t_ r63.2).bind fun r64 =>
  (dict.Table_int.find.c k t_ key r64.2).bind fun r65 =>
  if r65.isSome = true then
   need (r65.isSome = true) <|
   (rLdP r64.2 r65).bind fun r67 =>
   need (r67.isSome = true) <|
   (rSto r64.2 (rpAdd r67 1) [.it .i64 v_]).bind fun r69 =>
   some (false, r69)
  else
   (
    need (t_.isSome = true) <|
    (rLdB r64.2 (rpAdd t_ 6)).bind fun r77 =>
    if r77 = true then
     some 1
    else
     some 0).bind fun s73 =>
   letO (r64.2 ++ [[.tx key, .it .i64 v_, .pt (none : RP)]]) fun x79 =>
   (dict.Table_int.front.c k t_ s73 (some (r64.2.length, 0) : RP) x79).bind fun r80 =>
   need (t_.isSome = true) <|
   (rLdI .i64 r80 (rpAdd t_ 7)).bind fun r82 =>
   (rSto r80 (rpAdd t_ 7) [.it .i64 (IntKind.wrap .i64 (r82 + 1))]).bind fun r83 =>
   (
    need ((rpAdd t_ 1).isSome = true) <|
    need (InB 0 2) <|
    (rLdI .i64 r83 (rpAdd (rpAdd (rpAdd t_ 1) 0) 0)).bind fun r107 =>
    (rLdL r83 (rpAdd (rpAdd (rpAdd t_ 1) 0) 1)).bind fun r108 =>
    (
     (rLdB r83 (rpAdd t_ 6)).bind fun r117 =>
     if (!r117) = true then
      (rLdI .i64 r83 (rpAdd t_ 7)).bind fun r119 =>
      if (rsLen r108 : Int) < r119 then
       some (decide (r107 < 16))
      else
       some false
     else
      some false).bind fun s114 =>
    if s114 = true then
     (dict.Table_int.part.c k t_ (IntKind.wrap .i64 (r107 + 1)) r83).bind fun r121 =>
     some r121
    else
     some r83).bind fun s102 =>
   some (true, s102)

theorem dict.Table_int.Put.c_le (k : Nat) (t_ : RP) (key : List UInt8) (v_ : Int) (mem : Reg) : OLe (dict.Table_int.Put.c k t_ key v_ mem) (dict.Table_int.Put t_ key v_ mem) := by
 unfold dict.Table_int.Put.c dict.Table_int.Put
 repeat' with_reducible first | exact OLe.refl _ | apply dict.Table_int.ready.c_le | apply dict.Table_int.step.c_le | apply dict.Table_int.find.c_le | apply dict.Table_int.front.c_le | apply dict.Table_int.part.c_le | apply OLe.bind | apply OLe.need | apply OLe.letO | apply OLe.onSum | apply OLe.ite | intro _

def dict.Table_int.Get.c (k : Nat) (t_ : RP) (key : List UInt8) (mem : Reg) : Option (Int × Bool) :=
 (
  (
   if t_.isSome = true then
    need (t_.isSome = true) <|
    (rLdI .i64 mem (rpAdd t_ 7)).bind fun r65 =>
    some (decide (0 < r65))
   else
    some false).bind fun s60 =>
  if s60 = true then
   (dict.Table_int.find.c k t_ key mem).bind fun r66 =>
   if r66.isSome = true then
    need (r66.isSome = true) <|
    (rLdP mem r66).bind fun r68 =>
    need (r68.isSome = true) <|
    (rLdI .i64 mem (rpAdd r68 1)).bind fun r70 =>
    some (.inr (r70, true))
   else
    some (.inl ())
  else
   some (.inl ())).bind fun s74 => onSum s74 (fun s54 =>
  some (0, false)) fun s74x => some s74x

theorem dict.Table_int.Get.c_le (k : Nat) (t_ : RP) (key : List UInt8) (mem : Reg) : OLe (dict.Table_int.Get.c k t_ key mem) (dict.Table_int.Get t_ key mem) := by
 unfold dict.Table_int.Get.c dict.Table_int.Get
 repeat' with_reducible first | exact OLe.refl _ | apply dict.Table_int.find.c_le | apply OLe.bind | apply OLe.need | apply OLe.letO | apply OLe.onSum | apply OLe.ite | intro _

def dict.Table_int.Size.c (k : Nat) (t_ : RP) (mem : Reg) : Option (Int × Reg) :=
 (dict.Table_int.ready.c k t_ mem).bind fun r8 =>
 if (!r8.1) = true then
  some (0, r8.2)
 else
  need (t_.isSome = true) <|
  need ((rpAdd t_ 1).isSome = true) <|
  need (InB 0 2) <|
  need ((rpAdd (rpAdd t_ 1) 0).isSome = true) <|
  (rLdI .i64 r8.2 (rpAdd (rpAdd (rpAdd t_ 1) 0) 0)).bind fun r13 =>
  some (r13, r8.2)

theorem dict.Table_int.Size.c_le (k : Nat) (t_ : RP) (mem : Reg) : OLe (dict.Table_int.Size.c k t_ mem) (dict.Table_int.Size t_ mem) := by
 unfold dict.Table_int.Size.c dict.Table_int.Size
 repeat' with_reducible first | exact OLe.refl _ | apply dict.Table_int.ready.c_le | apply OLe.bind | apply OLe.need | apply OLe.letO | apply OLe.onSum | apply OLe.ite | intro _

def dict.Table_int.Len.c (k : Nat) (t_ : RP) (mem : Reg) : Option Int :=
 if t_.isNone = true then
  some 0
 else
  need (t_.isSome = true) <|
  (rLdI .i64 mem (rpAdd t_ 7)).bind fun r5 =>
  some r5

theorem dict.Table_int.Len.c_le (k : Nat) (t_ : RP) (mem : Reg) : OLe (dict.Table_int.Len.c k t_ mem) (dict.Table_int.Len t_ mem) := by
 unfold dict.Table_int.Len.c dict.Table_int.Len
 repeat' with_reducible first | exact OLe.refl _ | apply OLe.bind | apply OLe.need | apply OLe.letO | apply OLe.onSum | apply OLe.ite | intro _

def dict.Table_int.Step.body0.c (k : Nat) (t_ : RP) (n_ : Int) (s137 : dict.Table_int.Step.S0) : Option (dict.Table_int.Step.S0 ⊕ (Int × Reg)) :=
 (
  if t_.isSome = true then
   if s137.made < n_ then
    (dict.Table_int.step.c k t_ s137.mem).bind fun r149 =>
    some (r149.1, r149.2)
   else
    some (false, s137.mem)
  else
   some (false, s137.mem)).bind fun s144 =>
 if s144.1 = true then
  some (.inl ⟨IntKind.wrap .i64 (s137.made + 1), s144.2⟩)
 else
  some (.inr (s137.made, s144.2))

theorem dict.Table_int.Step.body0.c_le (k : Nat) (t_ : RP) (n_ : Int) (s137 : dict.Table_int.Step.S0) : OLe (dict.Table_int.Step.body0.c k t_ n_ s137) (dict.Table_int.Step.body0 t_ n_ s137) := by
 unfold dict.Table_int.Step.body0.c dict.Table_int.Step.body0
 repeat' with_reducible first | exact OLe.refl _ | apply dict.Table_int.step.c_le | apply OLe.bind | apply OLe.need | apply OLe.letO | apply OLe.onSum | apply OLe.ite | intro _

def dict.Table_int.Step.loop0.c (k : Nat) (t_ : RP) (n_ : Int) (s137 : dict.Table_int.Step.S0) : Option (Int × Reg) := iterO (dict.Table_int.Step.body0.c k t_ n_) k s137

theorem dict.Table_int.Step.loop0.c_le (k : Nat) (t_ : RP) (n_ : Int) (s137 : dict.Table_int.Step.S0) : OLe (dict.Table_int.Step.loop0.c k t_ n_ s137) (dict.Table_int.Step.loop0 t_ n_ s137) := by
 unfold dict.Table_int.Step.loop0.c dict.Table_int.Step.loop0
 exact OLe.iter (fun s => dict.Table_int.Step.body0.c_le k t_ n_ s) k _

def dict.Table_int.Step.c (k : Nat) (t_ : RP) (n_ : Int) (mem : Reg) : Option (Int × Reg) :=
 (dict.Table_int.Step.loop0.c k t_ n_ ⟨0, mem⟩).bind fun s112 =>
 some (s112.1, s112.2)

theorem dict.Table_int.Step.c_le (k : Nat) (t_ : RP) (n_ : Int) (mem : Reg) : OLe (dict.Table_int.Step.c k t_ n_ mem) (dict.Table_int.Step t_ n_ mem) := by
 unfold dict.Table_int.Step.c dict.Table_int.Step
 repeat' with_reducible first | exact OLe.refl _ | apply dict.Table_int.Step.loop0.c_le | apply OLe.bind | apply OLe.need | apply OLe.letO | apply OLe.onSum | apply OLe.ite | intro _

def mewslaw07.alive.body0.c (k : Nat) (r116 : RP × Reg) (s188 : mewslaw07.alive.S0) : Option (mewslaw07.alive.S0 ⊕ (Reg ⊕ Bool)) :=
 if s188.t9 < ([[97], [98], [99], [100], [101]].length : Int) then
  need (InB s188.t9 [[97], [98], [99], [100], [101]].length) <|
  (
   (dict.Table_int.Moved.c k r116.1 s188.mem).bind fun r199 =>
   if r199 = (-1) then
    (dict.Table_int.Put.c k r116.1 (ix [[97], [98], [99], [100], [101]] s188.t9) s188.t9 s188.mem).bind fun r201 =>
    some ((!r201.1), r201.2)
   else
    some (true, s188.mem)).bind fun s196 =>
  if s196.1 = true then
   some (.inr (.inr false))
  else
   some (.inl ⟨IntKind.wrap .i64 (s188.t9 + 1), s196.2⟩)
 else
  some (.inr (.inl s188.mem))

theorem mewslaw07.alive.body0.c_le (k : Nat) (r116 : RP × Reg) (s188 : mewslaw07.alive.S0) : OLe (mewslaw07.alive.body0.c k r116 s188) (mewslaw07.alive.body0 r116 s188) := by
 unfold mewslaw07.alive.body0.c mewslaw07.alive.body0
 repeat' with_reducible first | exact OLe.refl _ | apply dict.Table_int.Moved.c_le | apply dict.Table_int.Put.c_le | apply OLe.bind | apply OLe.need | apply OLe.letO | apply OLe.onSum | apply OLe.ite | intro _

def mewslaw07.alive.loop0.c (k : Nat) (r116 : RP × Reg) (s188 : mewslaw07.alive.S0) : Option (Reg ⊕ Bool) := iterO (mewslaw07.alive.body0.c k r116) k s188

theorem mewslaw07.alive.loop0.c_le (k : Nat) (r116 : RP × Reg) (s188 : mewslaw07.alive.S0) : OLe (mewslaw07.alive.loop0.c k r116 s188) (mewslaw07.alive.loop0 r116 s188) := by
 unfold mewslaw07.alive.loop0.c mewslaw07.alive.loop0
 exact OLe.iter (fun s => mewslaw07.alive.body0.c_le k r116 s) k _

def mewslaw07.alive.c (k : Nat)  : Option Bool :=
 (dict.New_int.c k 1 ([] : Reg)).bind fun r116 =>
 (mewslaw07.alive.loop0.c k r116 ⟨0, r116.2⟩).bind fun s230 => onSum s230 (fun s159 =>
  (dict.Table_int.Get.c k r116.1 [99] s159).bind fun r204 =>
  (
   (dict.Table_int.Moved.c k r116.1 s159).bind fun r219 =>
   if r219 = 0 then
    (dict.Table_int.Size.c k r116.1 s159).bind fun r221 =>
    if r221.1 = 2 then
     (dict.Table_int.Len.c k r116.1 r221.2).bind fun r223 =>
     if r223 = 5 then
      if r204.1 = 2 then
       if r204.2 = true then
        (dict.Table_int.Step.c k r116.1 9 r221.2).bind fun r227 =>
        if r227.1 = 4 then
         (dict.Table_int.Size.c k r116.1 r227.2).bind fun r229 =>
         some (decide (r229.1 = 3), r229.2)
        else
         some (false, r227.2)
       else
        some (false, r221.2)
      else
       some (false, r221.2)
     else
      some (false, r221.2)
    else
     some (false, r221.2)
   else
    some (false, s159)).bind fun s216 =>
  some s216.1) fun s230x => some s230x

theorem mewslaw07.alive.c_le (k : Nat)  : OLe (mewslaw07.alive.c k ) (mewslaw07.alive ) := by
 unfold mewslaw07.alive.c mewslaw07.alive
 repeat' with_reducible first | exact OLe.refl _ | apply dict.New_int.c_le | apply mewslaw07.alive.loop0.c_le | apply dict.Table_int.Get.c_le | apply dict.Table_int.Moved.c_le | apply dict.Table_int.Size.c_le | apply dict.Table_int.Len.c_le | apply dict.Table_int.Step.c_le | apply OLe.bind | apply OLe.need | apply OLe.letO | apply OLe.onSum | apply OLe.ite | intro _

def dict.Table_int.Chain.body0.c (k : Nat) (s105 : Bool × Reg) (s187 : dict.Table_int.Chain.S0) : Option (dict.Table_int.Chain.S0 ⊕ (List (List UInt8))) :=
 if s187.x.isSome = true then
  need (s187.x.isSome = true) <|
  (rLdS s105.2 (rpAdd s187.x 0)).bind fun r193 =>
  need ((s187.out.length + [r193].length) * 16 ≤ 140737488355328) <|
  (rLdP s105.2 (rpAdd s187.x 2)).bind fun r196 =>
  some (.inl ⟨s187.out ++ [r193], r196⟩)
 else
  some (.inr s187.out)

theorem dict.Table_int.Chain.body0.c_le (k : Nat) (s105 : Bool × Reg) (s187 : dict.Table_int.Chain.S0) : OLe (dict.Table_int.Chain.body0.c k s105 s187) (dict.Table_int.Chain.body0 s105 s187) := by
 unfold dict.Table_int.Chain.body0.c dict.Table_int.Chain.body0
 repeat' with_reducible first | exact OLe.refl _ | apply OLe.bind | apply OLe.need | apply OLe.letO | apply OLe.onSum | apply OLe.ite | intro _

def dict.Table_int.Chain.loop0.c (k : Nat) (s105 : Bool × Reg) (s187 : dict.Table_int.Chain.S0) : Option (List (List UInt8)) := iterO (dict.Table_int.Chain.body0.c k s105) k s187

theorem dict.Table_int.Chain.loop0.c_le (k : Nat) (s105 : Bool × Reg) (s187 : dict.Table_int.Chain.S0) : OLe (dict.Table_int.Chain.loop0.c k s105 s187) (dict.Table_int.Chain.loop0 s105 s187) := by
 unfold dict.Table_int.Chain.loop0.c dict.Table_int.Chain.loop0
 exact OLe.iter (fun s => dict.Table_int.Chain.body0.c_le k s105 s) k _

def dict.Table_int.Chain.c (k : Nat) (t_ : RP) (old : Bool) (place : Int) (mem : Reg) : Option ((List (List UInt8)) × Reg) :=
 (
  (dict.Table_int.ready.c k t_ mem).bind fun r108 =>
  if (!r108.1) = true then
   some (true, r108.2)
  else
   if (!old) = true then
    need (t_.isSome = true) <|
    (rLdB r108.2 (rpAdd t_ 6)).bind fun r112 =>
    some ((!r112), r108.2)
   else
    some (false, r108.2)).bind fun s105 =>
 if s105.1 = true then
  some (([] : List (List UInt8)), s105.2)
 else
  need (t_.isSome = true) <|
  need ((rpAdd t_ 1).isSome = true) <|
  need (InB 0 2) <|
  (rLdI .i64 s105.2 (rpAdd (rpAdd (rpAdd t_ 1) 0) 0)).bind fun r117 =>
  (rLdL s105.2 (rpAdd (rpAdd (rpAdd t_ 1) 0) 1)).bind fun r118 =>
  (
   if (!old) = true then
    need (InB 1 2) <|
    (rLdI .i64 s105.2 (rpAdd (rpAdd (rpAdd t_ 1) 2) 0)).bind fun r128 =>
    (rLdL s105.2 (rpAdd (rpAdd (rpAdd t_ 1) 2) 1)).bind fun r129 =>
    some (r128, r129)
   else
    some (r117, r118)).bind fun s124 =>
  letO (
   if place < 0 then
    true
   else
    decide ((rsLen s124.2 : Int) ≤ place)) fun s132 =>
  if s132 = true then
   some (([] : List (List UInt8)), s105.2)
  else
   (
    need (InB place (rsLen s124.2)) <|
    (rLdP s105.2 (rsPtr s124.2 place 1)).bind fun r171 =>
    dict.Table_int.Chain.loop0.c k s105 ⟨([] : List (List UInt8)), r171⟩).bind fun s166 =>
   some (s166, s105.2)

theorem dict.Table_int.Chain.c_le (k : Nat) (t_ : RP) (old : Bool) (place : Int) (mem : Reg) : OLe (dict.Table_int.Chain.c k t_ old place mem) (dict.Table_int.Chain t_ old place mem) := by
 unfold dict.Table_int.Chain.c dict.Table_int.Chain
 repeat' with_reducible first | exact OLe.refl _ | apply dict.Table_int.ready.c_le | apply dict.Table_int.Chain.loop0.c_le | apply OLe.bind | apply OLe.need | apply OLe.letO | apply OLe.onSum | apply OLe.ite | intro _

def dict.Table_int.Keys.body2.c (k : Nat) (r761 : RS) (t_ : RP) (s720 : dict.Table_int.Keys.S0) (s775 : dict.Table_int.Keys.S2) : Option (dict.Table_int.Keys.S2 ⊕ ((List (List UInt8)) × Reg)) :=
 if s775.t20 < (rsLen r761 : Int) then
  (dict.Table_int.Chain.c k t_ (decide (s720.t9 = 0)) s775.t20 s775.mem).bind fun r780 =>
  need ((s775.out.length + r780.1.length) * 16 ≤ 140737488355328) <|
  some (.inl ⟨s775.out ++ r780.1, IntKind.wrap .i64 (s775.t20 + 1), r780.2⟩)
 else
  some (.inr (s775.out, s775.mem))

theorem dict.Table_int.Keys.body2.c_le (k : Nat) (r761 : RS) (t_ : RP) (s720 : dict.Table_int.Keys.S0) (s775 : dict.Table_int.Keys.S2) : OLe (dict.Table_int.Keys.body2.c k r761 t_ s720 s775) (dict.Table_int.Keys.body2 r761 t_ s720 s775) := by
 unfold dict.Table_int.Keys.body2.c dict.Table_int.Keys.body2
 repeat' with_reducible first | exact OLe.refl _ | apply dict.Table_int.Chain.c_le | apply OLe.bind | apply OLe.need | apply OLe.letO | apply OLe.onSum | apply OLe.ite | intro _

def dict.Table_int.Keys.loop2.c (k : Nat) (r761 : RS) (t_ : RP) (s720 : dict.Table_int.Keys.S0) (s775 : dict.Table_int.Keys.S2) : Option ((List (List UInt8)) × Reg) := iterO (dict.Table_int.Keys.body2.c k r761 t_ s720) k s775

theorem dict.Table_int.Keys.loop2.c_le (k : Nat) (r761 : RS) (t_ : RP) (s720 : dict.Table_int.Keys.S0) (s775 : dict.Table_int.Keys.S2) : OLe (dict.Table_int.Keys.loop2.c k r761 t_ s720 s775) (dict.Table_int.Keys.loop2 r761 t_ s720 s775) := by
 unfold dict.Table_int.Keys.loop2.c dict.Table_int.Keys.loop2
 exact OLe.iter (fun s => dict.Table_int.Keys.body2.c_le k r761 t_ s720 s) k _

def dict.Table_int.Keys.body0.c (k : Nat) (t_ : RP) (s720 : dict.Table_int.Keys.S0) : Option (dict.Table_int.Keys.S0 ⊕ ((List (List UInt8)) × Reg)) :=
 if s720.t9 < 2 then
  (
   need (t_.isSome = true) <|
   need ((rpAdd t_ 1).isSome = true) <|
   need (InB s720.t9 2) <|
   need ((rpAdd (rpAdd t_ 1) (Int.toNat s720.t9 * 2)).isSome = true) <|
   (rLdL s720.mem (rpAdd (rpAdd (rpAdd t_ 1) (Int.toNat s720.t9 * 2)) 1)).bind fun r761 =>
   dict.Table_int.Keys.loop2.c k r761 t_ s720 ⟨s720.out, 0, s720.mem⟩).bind fun s753 =>
  some (.inl ⟨s753.1, IntKind.wrap .i64 (s720.t9 + 1), s753.2⟩)
 else
  some (.inr (s720.out, s720.mem))

theorem dict.Table_int.Keys.body0.c_le (k : Nat) (t_ : RP) (s720 : dict.Table_int.Keys.S0) : OLe (dict.Table_int.Keys.body0.c k t_ s720) (dict.Table_int.Keys.body0 t_ s720) := by
 unfold dict.Table_int.Keys.body0.c dict.Table_int.Keys.body0
 repeat' with_reducible first | exact OLe.refl _ | apply dict.Table_int.Keys.loop2.c_le | apply OLe.bind | apply OLe.need | apply OLe.letO | apply OLe.onSum | apply OLe.ite | intro _

def dict.Table_int.Keys.loop0.c (k : Nat) (t_ : RP) (s720 : dict.Table_int.Keys.S0) : Option ((List (List UInt8)) × Reg) := iterO (dict.Table_int.Keys.body0.c k t_) k s720

theorem dict.Table_int.Keys.loop0.c_le (k : Nat) (t_ : RP) (s720 : dict.Table_int.Keys.S0) : OLe (dict.Table_int.Keys.loop0.c k t_ s720) (dict.Table_int.Keys.loop0 t_ s720) := by
 unfold dict.Table_int.Keys.loop0.c dict.Table_int.Keys.loop0
 exact OLe.iter (fun s => dict.Table_int.Keys.body0.c_le k t_ s) k _

def dict.Table_int.Keys.c (k : Nat) (t_ : RP) (mem : Reg) : Option ((List (List UInt8)) × Reg) :=
 if t_.isNone = true then
  some (([] : List (List UInt8)), mem)
 else
  (dict.Table_int.Keys.loop0.c k t_ ⟨([] : List (List UInt8)), 0, mem⟩).bind fun s589 =>
  some (s589.1, s589.2)

theorem dict.Table_int.Keys.c_le (k : Nat) (t_ : RP) (mem : Reg) : OLe (dict.Table_int.Keys.c k t_ mem) (dict.Table_int.Keys t_ mem) := by
 unfold dict.Table_int.Keys.c dict.Table_int.Keys
 repeat' with_reducible first | exact OLe.refl _ | apply dict.Table_int.Keys.loop0.c_le | apply OLe.bind | apply OLe.need | apply OLe.letO | apply OLe.onSum | apply OLe.ite | intro _

def dict.Table_int.Toward.c (k : Nat) (t_ : RP) (mem : Reg) : Option Int :=
 (
  if t_.isNone = true then
   some true
  else
   need (t_.isSome = true) <|
   (rLdB mem (rpAdd t_ 6)).bind fun r24 =>
   some (!r24)).bind fun s19 =>
 if s19 = true then
  some (-1)
 else
  need (t_.isSome = true) <|
  need ((rpAdd t_ 1).isSome = true) <|
  need (InB 1 2) <|
  need ((rpAdd (rpAdd t_ 1) 2).isSome = true) <|
  (rLdI .i64 mem (rpAdd (rpAdd (rpAdd t_ 1) 2) 0)).bind fun r29 =>
  some r29

theorem dict.Table_int.Toward.c_le (k : Nat) (t_ : RP) (mem : Reg) : OLe (dict.Table_int.Toward.c k t_ mem) (dict.Table_int.Toward t_ mem) := by
 unfold dict.Table_int.Toward.c dict.Table_int.Toward
 repeat' with_reducible first | exact OLe.refl _ | apply OLe.bind | apply OLe.need | apply OLe.letO | apply OLe.onSum | apply OLe.ite | intro _

def bits.ReverseBytes64.c (k : Nat) (x_ : Int) : Option Int :=
 letO (Go.bits .or .u64 (Go.bits .and .u64 (x_ / 2 ^ min (Int.toNat 8) (IntKind.bits .u64)) 71777214294589695) (IntKind.wrap .u64 ((Go.bits .and .u64 x_ 71777214294589695) * 2 ^ min (Int.toNat 8) (IntKind.bits .u64)))) fun x4 =>
 letO (Go.bits .or .u64 (Go.bits .and .u64 (x4 / 2 ^ min (Int.toNat 16) (IntKind.bits .u64)) 281470681808895) (IntKind.wrap .u64 ((Go.bits .and .u64 x4 281470681808895) * 2 ^ min (Int.toNat 16) (IntKind.bits .u64)))) fun x5 =>
 letO (Go.bits .or .u64 (x5 / 2 ^ min (Int.toNat 32) (IntKind.bits .u64)) (IntKind.wrap .u64 (x5 * 2 ^ min (Int.toNat 32) (IntKind.bits .u64)))) fun x6 =>
 some x6

theorem bits.ReverseBytes64.c_le (k : Nat) (x_ : Int) : OLe (bits.ReverseBytes64.c k x_) (bits.ReverseBytes64 x_) := by
 unfold bits.ReverseBytes64.c bits.ReverseBytes64
 repeat' with_reducible first | exact OLe.refl _ | apply OLe.bind | apply OLe.need | apply OLe.letO | apply OLe.onSum | apply OLe.ite | intro _

def bits.Reverse64.c (k : Nat) (x_ : Int) : Option Int :=
 letO (Go.bits .or .u64 (Go.bits .and .u64 (x_ / 2 ^ min (Int.toNat 1) (IntKind.bits .u64)) 6148914691236517205) (IntKind.wrap .u64 ((Go.bits .and .u64 x_ 6148914691236517205) * 2 ^ min (Int.toNat 1) (IntKind.bits .u64)))) fun x5 =>
 letO (Go.bits .or .u64 (Go.bits .and .u64 (x5 / 2 ^ min (Int.toNat 2) (IntKind.bits .u64)) 3689348814741910323) (IntKind.wrap .u64 ((Go.bits .and .u64 x5 3689348814741910323) * 2 ^ min (Int.toNat 2) (IntKind.bits .u64)))) fun x6 =>
 letO (Go.bits .or .u64 (Go.bits .and .u64 (x6 / 2 ^ min (Int.toNat 4) (IntKind.bits .u64)) 1085102592571150095) (IntKind.wrap .u64 ((Go.bits .and .u64 x6 1085102592571150095) * 2 ^ min (Int.toNat 4) (IntKind.bits .u64)))) fun x7 =>
 (bits.ReverseBytes64.c k x7).bind fun r8 =>
 some r8

theorem bits.Reverse64.c_le (k : Nat) (x_ : Int) : OLe (bits.Reverse64.c k x_) (bits.Reverse64 x_) := by
 unfold bits.Reverse64.c bits.Reverse64
 repeat' with_reducible first | exact OLe.refl _ | apply bits.ReverseBytes64.c_le | apply OLe.bind | apply OLe.need | apply OLe.letO | apply OLe.onSum | apply OLe.ite | intro _

def hash.Turn.c (k : Nat) (n_ : Int) (b : Int) : Option Int :=
 (hash.size.c k b).bind fun r7 =>
 if r7 = 0 then
  some 0
 else
  (hash.low.c k n_ b).bind fun r8 =>
  (bits.Reverse64.c k r8).bind fun r9 =>
  (hash.size.c k b).bind fun r10 =>
  need ((0 : Int) ≤ IntKind.wrap .i64 (64 - r10)) <|
  some (r9 / 2 ^ min (Int.toNat (IntKind.wrap .i64 (64 - r10))) (IntKind.bits .u64))

theorem hash.Turn.c_le (k : Nat) (n_ : Int) (b : Int) : OLe (hash.Turn.c k n_ b) (hash.Turn n_ b) := by
 unfold hash.Turn.c hash.Turn
 repeat' with_reducible first | exact OLe.refl _ | apply hash.size.c_le | apply hash.low.c_le | apply bits.Reverse64.c_le | apply OLe.bind | apply OLe.need | apply OLe.letO | apply OLe.onSum | apply OLe.ite | intro _

def hash.Next.c (k : Nat) (cursor : Int) (b : Int) : Option Int :=
 (hash.Turn.c k cursor b).bind fun r3 =>
 (hash.Turn.c k (IntKind.wrap .u64 (r3 + 1)) b).bind fun r4 =>
 some r4

theorem hash.Next.c_le (k : Nat) (cursor : Int) (b : Int) : OLe (hash.Next.c k cursor b) (hash.Next cursor b) := by
 unfold hash.Next.c hash.Next
 repeat' with_reducible first | exact OLe.refl _ | apply hash.Turn.c_le | apply OLe.bind | apply OLe.need | apply OLe.letO | apply OLe.onSum | apply OLe.ite | intro _

def scan.Turn_int.body0.c (k : Nat) (t_ : RP) (r73 : Int) (r72 : Int × Reg) (r78 : Int) (s128 : scan.Turn_int.S0) : Option (scan.Turn_int.S0 ⊕ ((List (List UInt8)) × Reg)) :=
 if s128.t47 < 2 then
  need (InB s128.t47 2) <|
  (dict.Table_int.Chain.c k t_ (!decide ((if r73 < r72.1 then r73 else r72.1) = r72.1)) (ix ([r78, IntKind.wrap .i64 (r78 + (IntKind.wrap .i64 (1 * 2 ^ min (Int.toNat (if r73 < r72.1 then r73 else r72.1)) (IntKind.bits .i64))))] : List Int) s128.t47) s128.mem).bind fun r134 =>
  need ((s128.l.length + r134.1.length) * 16 ≤ 140737488355328) <|
  some (.inl ⟨s128.l ++ r134.1, IntKind.wrap .i64 (s128.t47 + 1), r134.2⟩)
 else
  some (.inr (s128.l, s128.mem))

theorem scan.Turn_int.body0.c_le (k : Nat) (t_ : RP) (r73 : Int) (r72 : Int × Reg) (r78 : Int) (s128 : scan.Turn_int.S0) : OLe (scan.Turn_int.body0.c k t_ r73 r72 r78 s128) (scan.Turn_int.body0 t_ r73 r72 r78 s128) := by
 unfold scan.Turn_int.body0.c scan.Turn_int.body0
 repeat' with_reducible first | exact OLe.refl _ | apply dict.Table_int.Chain.c_le | apply OLe.bind | apply OLe.need | apply OLe.letO | apply OLe.onSum | apply OLe.ite | intro _

def scan.Turn_int.loop0.c (k : Nat) (t_ : RP) (r73 : Int) (r72 : Int × Reg) (r78 : Int) (s128 : scan.Turn_int.S0) : Option ((List (List UInt8)) × Reg) := iterO (scan.Turn_int.body0.c k t_ r73 r72 r78) k s128

theorem scan.Turn_int.loop0.c_le (k : Nat) (t_ : RP) (r73 : Int) (r72 : Int × Reg) (r78 : Int) (s128 : scan.Turn_int.S0) : OLe (scan.Turn_int.loop0.c k t_ r73 r72 r78 s128) (scan.Turn_int.loop0 t_ r73 r72 r78 s128) := by
 unfold scan.Turn_int.loop0.c scan.Turn_int.loop0
 exact OLe.iter (fun s => scan.Turn_int.body0.c_le k t_ r73 r72 r78 s) k _

def scan.Turn_int.c (k : Nat) (t_ : RP) (cursor : Int) (mem : Reg) : Option (Int × (List (List UInt8)) × Reg) :=
 if t_.isNone = true then
  some (0, ([] : List (List UInt8)), mem)
 else
  (dict.Table_int.Size.c k t_ mem).bind fun r72 =>
  (dict.Table_int.Toward.c k t_ r72.2).bind fun r73 =>
  if r73 < 0 then
   (hash.Next.c k cursor r72.1).bind fun r74 =>
   (hash.Place.c k cursor r72.1).bind fun r75 =>
   (dict.Table_int.Chain.c k t_ true r75 r72.2).bind fun r76 =>
   some (r74, r76.1, r76.2)
  else
   (hash.Place.c k cursor (if r73 < r72.1 then r73 else r72.1)).bind fun r78 =>
   (dict.Table_int.Chain.c k t_ (decide ((if r73 < r72.1 then r73 else r72.1) = r72.1)) r78 r72.2).bind fun r79 =>
   (
    need ((0 : Int) ≤ if r73 < r72.1 then r73 else r72.1) <|
    scan.Turn_int.loop0.c k t_ r73 r72 r78 ⟨r79.1, 0, r79.2⟩).bind fun s108 =>
   (hash.Next.c k cursor (if r73 < r72.1 then r73 else r72.1)).bind fun r139 =>
   some (r139, s108.1, s108.2)

theorem scan.Turn_int.c_le (k : Nat) (t_ : RP) (cursor : Int) (mem : Reg) : OLe (scan.Turn_int.c k t_ cursor mem) (scan.Turn_int t_ cursor mem) := by
 unfold scan.Turn_int.c scan.Turn_int
 repeat' with_reducible first | exact OLe.refl _ | apply dict.Table_int.Size.c_le | apply dict.Table_int.Toward.c_le | apply hash.Next.c_le | apply hash.Place.c_le | apply dict.Table_int.Chain.c_le | apply scan.Turn_int.loop0.c_le | apply OLe.bind | apply OLe.need | apply OLe.letO | apply OLe.onSum | apply OLe.ite | intro _

def scan.Scan_int.body0.c (k : Nat) (count : Int) (t_ : RP) (s160 : scan.Scan_int.S0) : Option (scan.Scan_int.S0 ⊕ (Int × (List (List UInt8)) × Reg)) :=
 if s160.t16 < (IntKind.wrap .i64 (10 * (if 100000 < (if count < 1 then 1 else count) then 100000 else (if count < 1 then 1 else count)))) then
  (scan.Turn_int.c k t_ s160.cursor s160.mem).bind fun r165 =>
  need ((s160.l.length + r165.2.1.length) * 16 ≤ 140737488355328) <|
  letO (
   if r165.1 = 0 then
    true
   else
    decide ((if count < 1 then 1 else count) ≤ ((s160.l ++ r165.2.1).length : Int))) fun s170 =>
  if s170 = true then
   some (.inr (r165.1, s160.l ++ r165.2.1, r165.2.2))
  else
   some (.inl ⟨r165.1, s160.l ++ r165.2.1, IntKind.wrap .i64 (s160.t16 + 1), r165.2.2⟩)
 else
  some (.inr (s160.cursor, s160.l, s160.mem))

theorem scan.Scan_int.body0.c_le (k : Nat) (count : Int) (t_ : RP) (s160 : scan.Scan_int.S0) : OLe (scan.Scan_int.body0.c k count t_ s160) (scan.Scan_int.body0 count t_ s160) := by
 unfold scan.Scan_int.body0.c scan.Scan_int.body0
 repeat' with_reducible first | exact OLe.refl _ | apply scan.Turn_int.c_le | apply OLe.bind | apply OLe.need | apply OLe.letO | apply OLe.onSum | apply OLe.ite | intro _

def scan.Scan_int.loop0.c (k : Nat) (count : Int) (t_ : RP) (s160 : scan.Scan_int.S0) : Option (Int × (List (List UInt8)) × Reg) := iterO (scan.Scan_int.body0.c k count t_) k s160

theorem scan.Scan_int.loop0.c_le (k : Nat) (count : Int) (t_ : RP) (s160 : scan.Scan_int.S0) : OLe (scan.Scan_int.loop0.c k count t_ s160) (scan.Scan_int.loop0 count t_ s160) := by
 unfold scan.Scan_int.loop0.c scan.Scan_int.loop0
 exact OLe.iter (fun s => scan.Scan_int.body0.c_le k count t_ s) k _

def scan.Scan_int.c (k : Nat) (t_ : RP) (cursor : Int) (count : Int) (mem : Reg) : Option (Int × (List (List UInt8)) × Reg) :=
 (scan.Scan_int.loop0.c k count t_ ⟨cursor, ([] : List (List UInt8)), 0, mem⟩).bind fun s131 =>
 some (s131.1, s131.2.1, s131.2.2)

theorem scan.Scan_int.c_le (k : Nat) (t_ : RP) (cursor : Int) (count : Int) (mem : Reg) : OLe (scan.Scan_int.c k t_ cursor count mem) (scan.Scan_int t_ cursor count mem) := by
 unfold scan.Scan_int.c scan.Scan_int
 repeat' with_reducible first | exact OLe.refl _ | apply scan.Scan_int.loop0.c_le | apply OLe.bind | apply OLe.need | apply OLe.letO | apply OLe.onSum | apply OLe.ite | intro _

def scan.Pick_int.c (k : Nat) (t_ : RP) (n_ : Int) (mem : Reg) : Option ((List UInt8) × Bool × Reg) :=
 (dict.Table_int.Keys.c k t_ mem).bind fun r6 =>
 if (r6.1.length : Int) = 0 then
  some (([] : List UInt8), false, r6.2)
 else
  need (¬ (IntKind.wrap .u64 (r6.1.length : Int)) = 0) <|
  need (InB (n_.tmod (IntKind.wrap .u64 (r6.1.length : Int))) r6.1.length) <|
  some (ix r6.1 (n_.tmod (IntKind.wrap .u64 (r6.1.length : Int))), true, r6.2)

theorem scan.Pick_int.c_le (k : Nat) (t_ : RP) (n_ : Int) (mem : Reg) : OLe (scan.Pick_int.c k t_ n_ mem) (scan.Pick_int t_ n_ mem) := by
 unfold scan.Pick_int.c scan.Pick_int
 repeat' with_reducible first | exact OLe.refl _ | apply dict.Table_int.Keys.c_le | apply OLe.bind | apply OLe.need | apply OLe.letO | apply OLe.onSum | apply OLe.ite | intro _

def mewsref08.Has.body0.c (k : Nat) (l : List (List UInt8)) (s_ : List UInt8) (s61 : mewsref08.Has.S0) : Option (mewsref08.Has.S0 ⊕ (Unit ⊕ Bool)) :=
 if s61.i < (l.length : Int) then
  need (InB s61.i l.length) <|
  if (ix l s61.i) = s_ then
   some (.inr (.inr true))
  else
   some (.inl ⟨IntKind.wrap .i64 (s61.i + 1)⟩)
 else
  some (.inr (.inl ()))

theorem mewsref08.Has.body0.c_le (k : Nat) (l : List (List UInt8)) (s_ : List UInt8) (s61 : mewsref08.Has.S0) : OLe (mewsref08.Has.body0.c k l s_ s61) (mewsref08.Has.body0 l s_ s61) := by
 unfold mewsref08.Has.body0.c mewsref08.Has.body0
 repeat' with_reducible first | exact OLe.refl _ | apply OLe.bind | apply OLe.need | apply OLe.letO | apply OLe.onSum | apply OLe.ite | intro _

def mewsref08.Has.loop0.c (k : Nat) (l : List (List UInt8)) (s_ : List UInt8) (s61 : mewsref08.Has.S0) : Option (Unit ⊕ Bool) := iterO (mewsref08.Has.body0.c k l s_) k s61

theorem mewsref08.Has.loop0.c_le (k : Nat) (l : List (List UInt8)) (s_ : List UInt8) (s61 : mewsref08.Has.S0) : OLe (mewsref08.Has.loop0.c k l s_ s61) (mewsref08.Has.loop0 l s_ s61) := by
 unfold mewsref08.Has.loop0.c mewsref08.Has.loop0
 exact OLe.iter (fun s => mewsref08.Has.body0.c_le k l s_ s) k _

def mewsref08.Has.c (k : Nat) (l : List (List UInt8)) (s_ : List UInt8) : Option Bool :=
 (mewsref08.Has.loop0.c k l s_ ⟨0⟩).bind fun s68 => onSum s68 (fun s50 =>
  some false) fun s68x => some s68x

theorem mewsref08.Has.c_le (k : Nat) (l : List (List UInt8)) (s_ : List UInt8) : OLe (mewsref08.Has.c k l s_) (mewsref08.Has l s_) := by
 unfold mewsref08.Has.c mewsref08.Has
 repeat' with_reducible first | exact OLe.refl _ | apply mewsref08.Has.loop0.c_le | apply OLe.bind | apply OLe.need | apply OLe.letO | apply OLe.onSum | apply OLe.ite | intro _

def mewslaw08.alive.body0.c (k : Nat) (r60 : RP × Reg) (s87 : mewslaw08.alive.S0) : Option (mewslaw08.alive.S0 ⊕ Reg) :=
 if s87.t13 < ([[97], [98], [99], [100], [101]].length : Int) then
  need (InB s87.t13 [[97], [98], [99], [100], [101]].length) <|
  (dict.Table_int.Put.c k r60.1 (ix [[97], [98], [99], [100], [101]] s87.t13) s87.t13 s87.mem).bind fun r92 =>
  some (.inl ⟨IntKind.wrap .i64 (s87.t13 + 1), r92.2⟩)
 else
  some (.inr s87.mem)

theorem mewslaw08.alive.body0.c_le (k : Nat) (r60 : RP × Reg) (s87 : mewslaw08.alive.S0) : OLe (mewslaw08.alive.body0.c k r60 s87) (mewslaw08.alive.body0 r60 s87) := by
 unfold mewslaw08.alive.body0.c mewslaw08.alive.body0
 repeat' with_reducible first | exact OLe.refl _ | apply dict.Table_int.Put.c_le | apply OLe.bind | apply OLe.need | apply OLe.letO | apply OLe.onSum | apply OLe.ite | intro _

def mewslaw08.alive.loop0.c (k : Nat) (r60 : RP × Reg) (s87 : mewslaw08.alive.S0) : Option Reg := iterO (mewslaw08.alive.body0.c k r60) k s87

theorem mewslaw08.alive.loop0.c_le (k : Nat) (r60 : RP × Reg) (s87 : mewslaw08.alive.S0) : OLe (mewslaw08.alive.loop0.c k r60 s87) (mewslaw08.alive.loop0 r60 s87) := by
 unfold mewslaw08.alive.loop0.c mewslaw08.alive.loop0
 exact OLe.iter (fun s => mewslaw08.alive.body0.c_le k r60 s) k _

def mewslaw08.alive.c (k : Nat)  : Option Bool :=
 (dict.New_int.c k 1 ([] : Reg)).bind fun r60 =>
 (mewslaw08.alive.loop0.c k r60 ⟨0, r60.2⟩).bind fun s76 =>
 (scan.Scan_int.c k r60.1 0 100 s76).bind fun r94 =>
 (scan.Pick_int.c k r60.1 7 r94.2.2).bind fun r96 =>
 (dict.New_int.c k 1 r96.2.2).bind fun r97 =>
 (scan.Scan_int.c k r97.1 0 1 r97.2).bind fun r98 =>
 (
  if r94.1 = 0 then
   if (r94.2.1.length : Int) = 5 then
    (mewsref08.Has.c k r94.2.1 [101]).bind fun r113 =>
    if r113 = true then
     if r96.2.1 = true then
      (mewsref08.Has.c k r94.2.1 r96.1).bind fun r116 =>
      if r116 = true then
       if r98.1 = 0 then
        some (decide ((r98.2.1.length : Int) = 0))
       else
        some false
      else
       some false
     else
      some false
    else
     some false
   else
    some false
  else
   some false).bind fun s108 =>
 some s108

theorem mewslaw08.alive.c_le (k : Nat)  : OLe (mewslaw08.alive.c k ) (mewslaw08.alive ) := by
 unfold mewslaw08.alive.c mewslaw08.alive
 repeat' with_reducible first | exact OLe.refl _ | apply dict.New_int.c_le | apply mewslaw08.alive.loop0.c_le | apply scan.Scan_int.c_le | apply scan.Pick_int.c_le | apply mewsref08.Has.c_le | apply OLe.bind | apply OLe.need | apply OLe.letO | apply OLe.onSum | apply OLe.ite | intro _

end Go.Pu
