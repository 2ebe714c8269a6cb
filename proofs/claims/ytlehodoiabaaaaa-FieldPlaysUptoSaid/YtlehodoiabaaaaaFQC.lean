/- Printed by lift.py: the same functions, with rounds that are counted. -/
import Derived.Test.YtlehodoiabaaaaaFQP
set_option maxRecDepth 100000
set_option maxHeartbeats 0
namespace Go.Pu
open Go.Lift

def dict.empty_string.c (k : Nat) (size : Int) (mem : Reg) : Option (dict.places_string × Reg) :=
 need ((0 : Int) ≤ size) <|
 need (Room (IntKind.wrap .i64 (1 * 2 ^ min (Int.toNat size) (IntKind.bits .i64))) 8) <|
 letO (mem ++ [List.replicate (Int.toNat (IntKind.wrap .i64 (1 * 2 ^ min (Int.toNat size) (IntKind.bits .i64)))) (.pt (none : RP))]) fun x8 =>
 some (({ size := size, l := (some (mem.length, 0, Int.toNat (IntKind.wrap .i64 (1 * 2 ^ min (Int.toNat size) (IntKind.bits .i64))), Int.toNat (IntKind.wrap .i64 (1 * 2 ^ min (Int.toNat size) (IntKind.bits .i64)))) : RS) } : dict.places_string), x8)

theorem dict.empty_string.c_le (k : Nat) (size : Int) (mem : Reg) : OLe (dict.empty_string.c k size mem) (dict.empty_string size mem) := by
 unfold dict.empty_string.c dict.empty_string
 repeat' with_reducible first | exact OLe.refl _ | apply OLe.bind | apply OLe.need | apply OLe.letO | apply OLe.onSum | apply OLe.ite | intro _

def dict.New_string.c (k : Nat) (seed : Int) (mem : Reg) : Option (RP × Reg) :=
 (dict.empty_string.c k 2 mem).bind fun r3 =>
 letO (r3.2 ++ [[.it .u64 seed, .it .i64 r3.1.size, .sc r3.1.l, .it .i64 0, .sc (none : RS), .it .i64 0, .bo false, .it .i64 0]]) fun x4 =>
 some ((some (r3.2.length, 0) : RP), x4)

theorem dict.New_string.c_le (k : Nat) (seed : Int) (mem : Reg) : OLe (dict.New_string.c k seed mem) (dict.New_string seed mem) := by
 unfold dict.New_string.c dict.New_string
 repeat' with_reducible first | exact OLe.refl _ | apply dict.empty_string.c_le | apply OLe.bind | apply OLe.need | apply OLe.letO | apply OLe.onSum | apply OLe.ite | intro _

def dict.Table_string.ready.c (k : Nat) (t_ : RP) (mem : Reg) : Option (Bool × Reg) :=
 (
  (
   if t_.isSome = true then
    need (t_.isSome = true) <|
    need ((rpAdd t_ 1).isSome = true) <|
    need (InB 0 2) <|
    need ((rpAdd (rpAdd t_ 1) 0).isSome = true) <|
    (rLdL mem (rpAdd (rpAdd (rpAdd t_ 1) 0) 1)).bind fun r108 =>
    some r108.isNone
   else
    some false).bind fun s100 =>
  if s100 = true then
   need (t_.isSome = true) <|
   (rLdI .u64 mem (rpAdd t_ 0)).bind fun r110 =>
   (dict.New_string.c k r110 mem).bind fun r111 =>
   need (r111.1.isSome = true) <|
   (rLdI .u64 r111.2 (rpAdd r111.1 0)).bind fun r113 =>
   (rLdI .i64 r111.2 (rpAdd r111.1 1)).bind fun r114 =>
   (rLdL r111.2 (rpAdd r111.1 2)).bind fun r115 =>
   (rLdI .i64 r111.2 (rpAdd r111.1 3)).bind fun r116 =>
   (rLdL r111.2 (rpAdd r111.1 4)).bind fun r117 =>
   (rLdI .i64 r111.2 (rpAdd r111.1 5)).bind fun r118 =>
   (rLdB r111.2 (rpAdd r111.1 6)).bind fun r119 =>
   (rLdI .i64 r111.2 (rpAdd r111.1 7)).bind fun r120 =>
   (rSto r111.2 t_ [.it .u64 r113, .it .i64 r114, .sc r115, .it .i64 r116, .sc r117, .it .i64 r118, .bo r119, .it .i64 r120]).bind fun r121 =>
   some r121
  else
   some mem).bind fun s91 =>
 some (t_.isSome, s91)

theorem dict.Table_string.ready.c_le (k : Nat) (t_ : RP) (mem : Reg) : OLe (dict.Table_string.ready.c k t_ mem) (dict.Table_string.ready t_ mem) := by
 unfold dict.Table_string.ready.c dict.Table_string.ready
 repeat' with_reducible first | exact OLe.refl _ | apply dict.New_string.c_le | apply OLe.bind | apply OLe.need | apply OLe.letO | apply OLe.onSum | apply OLe.ite | intro _

def hash.Of.body0.c (k : Nat) (s_ : List UInt8) (s86 : hash.Of.S0) : Option (hash.Of.S0 ⊕ Int) :=
 if s86.t13 < (s_.length : Int) then
  need (InB s86.t13 s_.length) <|
  some (.inl ⟨IntKind.wrap .u64 ((Go.bits .xor .u64 s86.h (IntKind.wrap .u64 (bix s_ s86.t13))) * 1099511628211), IntKind.wrap .i64 (s86.t13 + 1)⟩)
 else
  some (.inr s86.h)

theorem hash.Of.body0.c_le (k : Nat) (s_ : List UInt8) (s86 : hash.Of.S0) : OLe (hash.Of.body0.c k s_ s86) (hash.Of.body0 s_ s86) := by
 unfold hash.Of.body0.c hash.Of.body0
 repeat' with_reducible first | exact OLe.refl _ | apply OLe.bind | apply OLe.need | apply OLe.letO | apply OLe.onSum | apply OLe.ite | intro _

def hash.Of.loop0.c (k : Nat) (s_ : List UInt8) (s86 : hash.Of.S0) : Option Int := iterO (hash.Of.body0.c k s_) k s86

theorem hash.Of.loop0.c_le (k : Nat) (s_ : List UInt8) (s86 : hash.Of.S0) : OLe (hash.Of.loop0.c k s_ s86) (hash.Of.loop0 s_ s86) := by
 unfold hash.Of.loop0.c hash.Of.loop0
 exact OLe.iter (fun s => hash.Of.body0.c_le k s_ s) k _

def hash.Of.body2.c (k : Nat)  (s118 : hash.Of.S2) : Option (hash.Of.S2 ⊕ Int) :=
 if s118.t25 < 3 then
  need (InB s118.t25 3) <|
  letO (IntKind.wrap .u64 ((Go.bits .xor .u64 s118.h (s118.h / 2 ^ min (Int.toNat 33) (IntKind.bits .u64))) * (ix ([18397679294719823053, 14181476777654086739, 1] : List Int) s118.t25))) fun x123 =>
  some (.inl ⟨x123, IntKind.wrap .i64 (s118.t25 + 1)⟩)
 else
  some (.inr s118.h)

theorem hash.Of.body2.c_le (k : Nat)  (s118 : hash.Of.S2) : OLe (hash.Of.body2.c k s118) (hash.Of.body2 s118) := by
 unfold hash.Of.body2.c hash.Of.body2
 repeat' with_reducible first | exact OLe.refl _ | apply OLe.bind | apply OLe.need | apply OLe.letO | apply OLe.onSum | apply OLe.ite | intro _

def hash.Of.loop2.c (k : Nat)  (s118 : hash.Of.S2) : Option Int := iterO (hash.Of.body2.c k ) k s118

theorem hash.Of.loop2.c_le (k : Nat)  (s118 : hash.Of.S2) : OLe (hash.Of.loop2.c k s118) (hash.Of.loop2 s118) := by
 unfold hash.Of.loop2.c hash.Of.loop2
 exact OLe.iter (fun s => hash.Of.body2.c_le k  s) k _

def hash.Of.c (k : Nat) (seed : Int) (s_ : List UInt8) : Option Int :=
 (hash.Of.loop0.c k s_ ⟨Go.bits .xor .u64 14695981039346656037 seed, 0⟩).bind fun s76 =>
 (hash.Of.loop2.c k  ⟨s76, 0⟩).bind fun s107 =>
 some s107

theorem hash.Of.c_le (k : Nat) (seed : Int) (s_ : List UInt8) : OLe (hash.Of.c k seed s_) (hash.Of seed s_) := by
 unfold hash.Of.c hash.Of
 repeat' with_reducible first | exact OLe.refl _ | apply hash.Of.loop0.c_le | apply hash.Of.loop2.c_le | apply OLe.bind | apply OLe.need | apply OLe.letO | apply OLe.onSum | apply OLe.ite | intro _

def hash.size.c (k : Nat) (b : Int) : Option Int :=
 some (if 16 < (if b < 0 then 0 else b) then 16 else (if b < 0 then 0 else b))

theorem hash.size.c_le (k : Nat) (b : Int) : OLe (hash.size.c k b) (hash.size b) := by
 unfold hash.size.c hash.size
 repeat' with_reducible first | exact OLe.refl _ | apply OLe.bind | apply OLe.need | apply OLe.letO | apply OLe.onSum | apply OLe.ite | intro _

def hash.low.c (k : Nat) (n_ : Int) (b : Int) : Option Int :=
 (hash.size.c k b).bind fun r3 =>
 need ((0 : Int) ≤ r3) <|
 some (Go.bits .and .u64 n_ (IntKind.wrap .u64 ((IntKind.wrap .u64 (1 * 2 ^ min (Int.toNat r3) (IntKind.bits .u64))) - 1)))

theorem hash.low.c_le (k : Nat) (n_ : Int) (b : Int) : OLe (hash.low.c k n_ b) (hash.low n_ b) := by
 unfold hash.low.c hash.low
 repeat' with_reducible first | exact OLe.refl _ | apply hash.size.c_le | apply OLe.bind | apply OLe.need | apply OLe.letO | apply OLe.onSum | apply OLe.ite | intro _

def hash.Place.c (k : Nat) (h_ : Int) (b : Int) : Option Int :=
 (hash.low.c k h_ b).bind fun r2 =>
 some (IntKind.wrap .i64 r2)

theorem hash.Place.c_le (k : Nat) (h_ : Int) (b : Int) : OLe (hash.Place.c k h_ b) (hash.Place h_ b) := by
 unfold hash.Place.c hash.Place
 repeat' with_reducible first | exact OLe.refl _ | apply hash.low.c_le | apply OLe.bind | apply OLe.need | apply OLe.letO | apply OLe.onSum | apply OLe.ite | intro _

def dict.Table_string.slot.c (k : Nat) (t_ : RP) (k_ : Int) (key : List UInt8) (mem : Reg) : Option RP :=
 need (t_.isSome = true) <|
 need ((rpAdd t_ 1).isSome = true) <|
 need (InB k_ 2) <|
 need ((rpAdd (rpAdd t_ 1) (Int.toNat k_ * 2)).isSome = true) <|
 (rLdL mem (rpAdd (rpAdd (rpAdd t_ 1) (Int.toNat k_ * 2)) 1)).bind fun r15 =>
 (rLdI .u64 mem (rpAdd t_ 0)).bind fun r16 =>
 (hash.Of.c k r16 key).bind fun r17 =>
 (rLdI .i64 mem (rpAdd (rpAdd (rpAdd t_ 1) (Int.toNat k_ * 2)) 0)).bind fun r18 =>
 (hash.Place.c k r17 r18).bind fun r19 =>
 need (InB r19 (rsLen r15)) <|
 some (rsPtr r15 r19 1)

theorem dict.Table_string.slot.c_le (k : Nat) (t_ : RP) (k_ : Int) (key : List UInt8) (mem : Reg) : OLe (dict.Table_string.slot.c k t_ k_ key mem) (dict.Table_string.slot t_ k_ key mem) := by
 unfold dict.Table_string.slot.c dict.Table_string.slot
 repeat' with_reducible first | exact OLe.refl _ | apply hash.Of.c_le | apply hash.Place.c_le | apply OLe.bind | apply OLe.need | apply OLe.letO | apply OLe.onSum | apply OLe.ite | intro _

def dict.Table_string.front.c (k : Nat) (t_ : RP) (k_ : Int) (x_ : RP) (mem : Reg) : Option Reg :=
 need (x_.isSome = true) <|
 (rLdS mem (rpAdd x_ 0)).bind fun r9 =>
 (dict.Table_string.slot.c k t_ k_ r9 mem).bind fun r10 =>
 need (r10.isSome = true) <|
 (rLdP mem r10).bind fun r12 =>
 (rSto mem (rpAdd x_ 2) [.pt r12]).bind fun r13 =>
 (rSto r13 r10 [.pt x_]).bind fun r14 =>
 some r14

theorem dict.Table_string.front.c_le (k : Nat) (t_ : RP) (k_ : Int) (x_ : RP) (mem : Reg) : OLe (dict.Table_string.front.c k t_ k_ x_ mem) (dict.Table_string.front t_ k_ x_ mem) := by
 unfold dict.Table_string.front.c dict.Table_string.front
 repeat' with_reducible first | exact OLe.refl _ | apply dict.Table_string.slot.c_le | apply OLe.bind | apply OLe.need | apply OLe.letO | apply OLe.onSum | apply OLe.ite | intro _

def dict.Table_string.step.body0.c (k : Nat) (t_ : RP) (s133 : dict.Table_string.step.S0) : Option (dict.Table_string.step.S0 ⊕ Reg) :=
 if s133.x.isSome = true then
  need (s133.x.isSome = true) <|
  (rLdP s133.mem (rpAdd s133.x 2)).bind fun r138 =>
  (dict.Table_string.front.c k t_ 1 s133.x s133.mem).bind fun r139 =>
  some (.inl ⟨r138, r139⟩)
 else
  some (.inr s133.mem)

theorem dict.Table_string.step.body0.c_le (k : Nat) (t_ : RP) (s133 : dict.Table_string.step.S0) : OLe (dict.Table_string.step.body0.c k t_ s133) (dict.Table_string.step.body0 t_ s133) := by
 unfold dict.Table_string.step.body0.c dict.Table_string.step.body0
 repeat' with_reducible first | exact OLe.refl _ | apply dict.Table_string.front.c_le | apply OLe.bind | apply OLe.need | apply OLe.letO | apply OLe.onSum | apply OLe.ite | intro _

def dict.Table_string.step.loop0.c (k : Nat) (t_ : RP) (s133 : dict.Table_string.step.S0) : Option Reg := iterO (dict.Table_string.step.body0.c k t_) k s133

theorem dict.Table_string.step.loop0.c_le (k : Nat) (t_ : RP) (s133 : dict.Table_string.step.S0) : OLe (dict.Table_string.step.loop0.c k t_ s133) (dict.Table_string.step.loop0 t_ s133) := by
 unfold dict.Table_string.step.loop0.c dict.Table_string.step.loop0
 exact OLe.iter (fun s => dict.Table_string.step.body0.c_le k t_ s) k _

def dict.Table_string.step.c (k : Nat) (t_ : RP) (mem : Reg) : Option (Bool × Reg) :=
 need (t_.isSome = true) <|
 (rLdB mem (rpAdd t_ 6)).bind fun r89 =>
 if (!r89) = true then
  some (false, mem)
 else
  need ((rpAdd t_ 1).isSome = true) <|
  need (InB 0 2) <|
  need ((rpAdd (rpAdd t_ 1) 0).isSome = true) <|
  (rLdL mem (rpAdd (rpAdd (rpAdd t_ 1) 0) 1)).bind fun r93 =>
  (rLdI .i64 mem (rpAdd t_ 5)).bind fun r94 =>
  need (InB r94 (rsLen r93)) <|
  (rLdP mem (rsPtr r93 r94 1)).bind fun r96 =>
  need (InB 0 2) <|
  (rLdL mem (rpAdd (rpAdd (rpAdd t_ 1) 0) 1)).bind fun r98 =>
  (rLdI .i64 mem (rpAdd t_ 5)).bind fun r99 =>
  need (InB r99 (rsLen r98)) <|
  (rSto mem (rsPtr r98 r99 1) [.pt (none : RP)]).bind fun r101 =>
  (dict.Table_string.step.loop0.c k t_ ⟨r96, r101⟩).bind fun s120 =>
  (
   need (t_.isSome = true) <|
   (rLdI .i64 s120 (rpAdd t_ 5)).bind fun r160 =>
   (rSto s120 (rpAdd t_ 5) [.it .i64 (IntKind.wrap .i64 (r160 + 1))]).bind fun r161 =>
   (rLdI .i64 r161 (rpAdd t_ 5)).bind fun r162 =>
   need ((rpAdd t_ 1).isSome = true) <|
   need (InB 0 2) <|
   need ((rpAdd (rpAdd t_ 1) 0).isSome = true) <|
   (rLdL r161 (rpAdd (rpAdd (rpAdd t_ 1) 0) 1)).bind fun r166 =>
   if r162 = (rsLen r166 : Int) then
    need (InB 1 2) <|
    (rLdI .i64 r161 (rpAdd (rpAdd (rpAdd t_ 1) 2) 0)).bind fun r168 =>
    (rLdL r161 (rpAdd (rpAdd (rpAdd t_ 1) 2) 1)).bind fun r169 =>
    (rSto r161 (rpAdd t_ 1) [.it .i64 r168, .sc r169, .it .i64 0, .sc (none : RS)]).bind fun r170 =>
    (rSto r170 (rpAdd t_ 6) [.bo false]).bind fun r171 =>
    (rSto r171 (rpAdd t_ 5) [.it .i64 0]).bind fun r172 =>
    some r172
   else
    some r161).bind fun s156 =>
  some (true, s156)

theorem dict.Table_string.step.c_le (k : Nat) (t_ : RP) (mem : Reg) : OLe (dict.Table_string.step.c k t_ mem) (dict.Table_string.step t_ mem) := by
 unfold dict.Table_string.step.c dict.Table_string.step
 repeat' with_reducible first | exact OLe.refl _ | apply dict.Table_string.step.loop0.c_le | apply OLe.bind | apply OLe.need | apply OLe.letO | apply OLe.onSum | apply OLe.ite | intro _

def dict.Table_string.find.body2.c (k : Nat) (mem : Reg) (key : List UInt8) (s1132 : dict.Table_string.find.S2) : Option (dict.Table_string.find.S2 ⊕ (Unit ⊕ (dict.Table_string.find.S0 ⊕ (Unit ⊕ RP)))) :=
 need (s1132.at_.isSome = true) <|
 (rLdP mem s1132.at_).bind fun r1137 =>
 if r1137.isSome = true then
  (rLdP mem s1132.at_).bind fun r1138 =>
  need (r1138.isSome = true) <|
  (rLdS mem (rpAdd r1138 0)).bind fun r1140 =>
  if r1140 = key then
   some (.inr (.inr (.inr (.inr s1132.at_))))
  else
   (rLdP mem s1132.at_).bind fun r1141 =>
   need (r1141.isSome = true) <|
   some (.inl ⟨rpAdd r1141 2⟩)
 else
  some (.inr (.inl ()))

theorem dict.Table_string.find.body2.c_le (k : Nat) (mem : Reg) (key : List UInt8) (s1132 : dict.Table_string.find.S2) : OLe (dict.Table_string.find.body2.c k mem key s1132) (dict.Table_string.find.body2 mem key s1132) := by
 unfold dict.Table_string.find.body2.c dict.Table_string.find.body2
 repeat' with_reducible first | exact OLe.refl _ | apply OLe.bind | apply OLe.need | apply OLe.letO | apply OLe.onSum | apply OLe.ite | intro _

def dict.Table_string.find.loop2.c (k : Nat) (mem : Reg) (key : List UInt8) (s1132 : dict.Table_string.find.S2) : Option (Unit ⊕ (dict.Table_string.find.S0 ⊕ (Unit ⊕ RP))) := iterO (dict.Table_string.find.body2.c k mem key) k s1132

theorem dict.Table_string.find.loop2.c_le (k : Nat) (mem : Reg) (key : List UInt8) (s1132 : dict.Table_string.find.S2) : OLe (dict.Table_string.find.loop2.c k mem key s1132) (dict.Table_string.find.loop2 mem key s1132) := by
 unfold dict.Table_string.find.loop2.c dict.Table_string.find.loop2
 exact OLe.iter (fun s => dict.Table_string.find.body2.c_le k mem key s) k _

def dict.Table_string.find.body0.c (k : Nat) (t_ : RP) (mem : Reg) (key : List UInt8) (s1051 : dict.Table_string.find.S0) : Option (dict.Table_string.find.S0 ⊕ (Unit ⊕ RP)) :=
 if s1051.t7 < 2 then
  (
   (
    if s1051.t7 = 1 then
     need (t_.isSome = true) <|
     (rLdB mem (rpAdd t_ 6)).bind fun r1110 =>
     some (!r1110)
    else
     some false).bind fun s1105 =>
   if s1105 = true then
    some (.inr (.inr (.inl ())))
   else
    (dict.Table_string.slot.c k t_ s1051.t7 key mem).bind fun r1111 =>
    dict.Table_string.find.loop2.c k mem key ⟨r1111⟩).bind fun s1146 => onSum s1146 (fun s1099 =>
   some (.inl ⟨IntKind.wrap .i64 (s1051.t7 + 1)⟩)) fun s1146x => some s1146x
 else
  some (.inr (.inl ()))

theorem dict.Table_string.find.body0.c_le (k : Nat) (t_ : RP) (mem : Reg) (key : List UInt8) (s1051 : dict.Table_string.find.S0) : OLe (dict.Table_string.find.body0.c k t_ mem key s1051) (dict.Table_string.find.body0 t_ mem key s1051) := by
 unfold dict.Table_string.find.body0.c dict.Table_string.find.body0
 repeat' with_reducible first | exact OLe.refl _ | apply dict.Table_string.slot.c_le | apply dict.Table_string.find.loop2.c_le | apply OLe.bind | apply OLe.need | apply OLe.letO | apply OLe.onSum | apply OLe.ite | intro _

def dict.Table_string.find.loop0.c (k : Nat) (t_ : RP) (mem : Reg) (key : List UInt8) (s1051 : dict.Table_string.find.S0) : Option (Unit ⊕ RP) := iterO (dict.Table_string.find.body0.c k t_ mem key) k s1051

theorem dict.Table_string.find.loop0.c_le (k : Nat) (t_ : RP) (mem : Reg) (key : List UInt8) (s1051 : dict.Table_string.find.S0) : OLe (dict.Table_string.find.loop0.c k t_ mem key s1051) (dict.Table_string.find.loop0 t_ mem key s1051) := by
 unfold dict.Table_string.find.loop0.c dict.Table_string.find.loop0
 exact OLe.iter (fun s => dict.Table_string.find.body0.c_le k t_ mem key s) k _

def dict.Table_string.find.c (k : Nat) (t_ : RP) (key : List UInt8) (mem : Reg) : Option RP :=
 (dict.Table_string.find.loop0.c k t_ mem key ⟨0⟩).bind fun s1148 => onSum s1148 (fun s860 =>
  some (none : RP)) fun s1148x => some s1148x

theorem dict.Table_string.find.c_le (k : Nat) (t_ : RP) (key : List UInt8) (mem : Reg) : OLe (dict.Table_string.find.c k t_ key mem) (dict.Table_string.find t_ key mem) := by
 unfold dict.Table_string.find.c dict.Table_string.find
 repeat' with_reducible first | exact OLe.refl _ | apply dict.Table_string.find.loop0.c_le | apply OLe.bind | apply OLe.need | apply OLe.letO | apply OLe.onSum | apply OLe.ite | intro _

def dict.Table_string.part.c (k : Nat) (t_ : RP) (size : Int) (mem : Reg) : Option Reg :=
 (dict.empty_string.c k size mem).bind fun r8 =>
 need (t_.isSome = true) <|
 need ((rpAdd t_ 1).isSome = true) <|
 need (InB 1 2) <|
 (rSto r8.2 (rpAdd (rpAdd t_ 1) 2) [.it .i64 r8.1.size, .sc r8.1.l]).bind fun r12 =>
 (rSto r12 (rpAdd t_ 6) [.bo true]).bind fun r13 =>
 (rSto r13 (rpAdd t_ 5) [.it .i64 0]).bind fun r14 =>
 some r14

theorem dict.Table_string.part.c_le (k : Nat) (t_ : RP) (size : Int) (mem : Reg) : OLe (dict.Table_string.part.c k t_ size mem) (dict.Table_string.part t_ size mem) := by
 unfold dict.Table_string.part.c dict.Table_string.part
 repeat' with_reducible first | exact OLe.refl _ | apply dict.empty_string.c_le | apply OLe.bind | apply OLe.need | apply OLe.letO | apply OLe.onSum | apply OLe.ite | intro _

def dict.Table_string.Put.c (k : Nat) (t_ : RP) (key : List UInt8) (v_ : List UInt8) (mem : Reg) : Option (Bool × Reg) :=
 (dict.Table_string.ready.c k t_ mem).bind fun r63 =>
 if (!r63.1) = true then
  some (false, r63.2)
 else
  (dict.Table_string.step.c k t_ r63.2).bind fun r64 =>
  (dict.Table_string.find.c k t_ key r64.2).bind fun r65 =>
  if r65.isSome = true then
   need (r65.isSome = true) <|
   (rLdP r64.2 r65).bind fun r67 =>
   need (r67.isSome = true) <|
   (rSto r64.2 (rpAdd r67 1) [.tx v_]).bind fun r69 =>
   some (false, r69)
  else
   (
    need (t_.isSome = true) <|
    (rLdB r64.2 (rpAdd t_ 6)).bind fun r77 =>
    if r77 = true then
     some 1
    else
     some 0).bind fun s73 =>
   letO (r64.2 ++ [[.tx key, .tx v_, .pt (none : RP)]]) fun x79 =>
   (dict.Table_string.front.c k t_ s73 (some (r64.2.length, 0) : RP) x79).bind fun r80 =>
   need (t_.isSome = true) <|
   (rLdI .i64 r80 (rpAdd t_ 7)).bind fun r82 =>
   (rSto r80 (rpAdd t_ 7) [.it .i64 (IntKind.wrap .i64 (r82 + 1))]).bind fun r83 =>
   (
    need ((rpAdd t_ 1).isSome = true) <|
    need (InB 0 2) <|
    (rLdI .i64 r83 (rpAdd (rpAdd (rpAdd t_ 1) 0) 0)).bind fun r107 =>
    (rLdL r83 (rpAdd (rpAdd (rpAdd t_ 1) 0) 1)).bind fun r108 =>
    (
     (rLdB r83 (rpAdd t_ 6)).bind fun r117 =>
     if (!r117) = true then
      (rLdI .i64 r83 (rpAdd t_ 7)).bind fun r119 =>
      if (rsLen r108 : Int) < r119 then
       some (decide (r107 < 16))
      else
       some false
     else
      some false).bind fun s114 =>
    if s114 = true then
     (dict.Table_string.part.c k t_ (IntKind.wrap .i64 (r107 + 1)) r83).bind fun r121 =>
     some r121
    else
     some r83).bind fun s102 =>
   some (true, s102)

theorem dict.Table_string.Put.c_le (k : Nat) (t_ : RP) (key : List UInt8) (v_ : List UInt8) (mem : Reg) : OLe (dict.Table_string.Put.c k t_ key v_ mem) (dict.Table_string.Put t_ key v_ mem) := by
 unfold dict.Table_string.Put.c dict.Table_string.Put
 repeat' with_reducible first | exact OLe.refl _ | apply dict.Table_string.ready.c_le | apply dict.Table_string.step.c_le | apply dict.Table_string.find.c_le | apply dict.Table_string.front.c_le | apply dict.Table_string.part.c_le | apply OLe.bind | apply OLe.need | apply OLe.letO | apply OLe.onSum | apply OLe.ite | intro _

def field.Put.body0.c (k : Nat) (fields : List api.Field) (t_ : RP) (s159 : field.Put.S0) : Option (field.Put.S0 ⊕ (Int × Reg)) :=
 if s159.t10 < (fields.length : Int) then
  (
   need (InB s159.t10 fields.length) <|
   (dict.Table_string.Put.c k t_ (ix fields s159.t10).Key (ix fields s159.t10).Val s159.mem).bind fun r172 =>
   if r172.1 = true then
    some (IntKind.wrap .i64 (s159.n + 1), r172.2)
   else
    some (s159.n, r172.2)).bind fun s167 =>
  some (.inl ⟨s167.1, IntKind.wrap .i64 (s159.t10 + 1), s167.2⟩)
 else
  some (.inr (s159.n, s159.mem))

theorem field.Put.body0.c_le (k : Nat) (fields : List api.Field) (t_ : RP) (s159 : field.Put.S0) : OLe (field.Put.body0.c k fields t_ s159) (field.Put.body0 fields t_ s159) := by
 unfold field.Put.body0.c field.Put.body0
 repeat' with_reducible first | exact OLe.refl _ | apply dict.Table_string.Put.c_le | apply OLe.bind | apply OLe.need | apply OLe.letO | apply OLe.onSum | apply OLe.ite | intro _

def field.Put.loop0.c (k : Nat) (fields : List api.Field) (t_ : RP) (s159 : field.Put.S0) : Option (Int × Reg) := iterO (field.Put.body0.c k fields t_) k s159

theorem field.Put.loop0.c_le (k : Nat) (fields : List api.Field) (t_ : RP) (s159 : field.Put.S0) : OLe (field.Put.loop0.c k fields t_ s159) (field.Put.loop0 fields t_ s159) := by
 unfold field.Put.loop0.c field.Put.loop0
 exact OLe.iter (fun s => field.Put.body0.c_le k fields t_ s) k _

def field.Put.c (k : Nat) (t_ : RP) (fields : List api.Field) (mem : Reg) : Option (Int × Reg) :=
 (field.Put.loop0.c k fields t_ ⟨0, 0, mem⟩).bind fun s130 =>
 some (s130.1, s130.2)

theorem field.Put.c_le (k : Nat) (t_ : RP) (fields : List api.Field) (mem : Reg) : OLe (field.Put.c k t_ fields mem) (field.Put t_ fields mem) := by
 unfold field.Put.c field.Put
 repeat' with_reducible first | exact OLe.refl _ | apply field.Put.loop0.c_le | apply OLe.bind | apply OLe.need | apply OLe.letO | apply OLe.onSum | apply OLe.ite | intro _

def dict.Table_string.Chain.body0.c (k : Nat) (s105 : Bool × Reg) (s187 : dict.Table_string.Chain.S0) : Option (dict.Table_string.Chain.S0 ⊕ (List (List UInt8))) :=
 if s187.x.isSome = true then
  need (s187.x.isSome = true) <|
  (rLdS s105.2 (rpAdd s187.x 0)).bind fun r193 =>
  need ((s187.out.length + [r193].length) * 16 ≤ 140737488355328) <|
  (rLdP s105.2 (rpAdd s187.x 2)).bind fun r196 =>
  some (.inl ⟨s187.out ++ [r193], r196⟩)
 else
  some (.inr s187.out)

theorem dict.Table_string.Chain.body0.c_le (k : Nat) (s105 : Bool × Reg) (s187 : dict.Table_string.Chain.S0) : OLe (dict.Table_string.Chain.body0.c k s105 s187) (dict.Table_string.Chain.body0 s105 s187) := by
 unfold dict.Table_string.Chain.body0.c dict.Table_string.Chain.body0
 repeat' with_reducible first | exact OLe.refl _ | apply OLe.bind | apply OLe.need | apply OLe.letO | apply OLe.onSum | apply OLe.ite | intro _

def dict.Table_string.Chain.loop0.c (k : Nat) (s105 : Bool × Reg) (s187 : dict.Table_string.Chain.S0) : Option (List (List UInt8)) := iterO (dict.Table_string.Chain.body0.c k s105) k s187

theorem dict.Table_string.Chain.loop0.c_le (k : Nat) (s105 : Bool × Reg) (s187 : dict.Table_string.Chain.S0) : OLe (dict.Table_string.Chain.loop0.c k s105 s187) (dict.Table_string.Chain.loop0 s105 s187) := by
 unfold dict.Table_string.Chain.loop0.c dict.Table_string.Chain.loop0
 exact OLe.iter (fun s => dict.Table_string.Chain.body0.c_le k s105 s) k _

def dict.Table_string.Chain.c (k : Nat) (t_ : RP) (old : Bool) (place : Int) (mem : Reg) : Option ((List (List UInt8)) × Reg) :=
 (
  (dict.Table_string.ready.c k t_ mem).bind fun r108 =>
  if (!r108.1) = true then
   some (true, r108.2)
  else
   if (!old) = true then
    need (t_.isSome = true) <|
    (rLdB r108.2 (rpAdd t_ 6)).bind fun r112 =>
    some ((!r112), r108.2)
   else
    some (false, r108.2)).bind fun s105 =>
 if s105.1 = true then
  some (([] : List (List UInt8)), s105.2)
 else
  need (t_.isSome = true) <|
  need ((rpAdd t_ 1).isSome = true) <|
  need (InB 0 2) <|
  (rLdI .i64 s105.2 (rpAdd (rpAdd (rpAdd t_ 1) 0) 0)).bind fun r117 =>
  (rLdL s105.2 (rpAdd (rpAdd (rpAdd t_ 1) 0) 1)).bind fun r118 =>
  (
   if (!old) = true then
    need (InB 1 2) <|
    (rLdI .i64 s105.2 (rpAdd (rpAdd (rpAdd t_ 1) 2) 0)).bind fun r128 =>
    (rLdL s105.2 (rpAdd (rpAdd (rpAdd t_ 1) 2) 1)).bind fun r129 =>
    some (r128, r129)
   else
    some (r117, r118)).bind fun s124 =>
  letO (
   if place < 0 then
    true
   else
    decide ((rsLen s124.2 : Int) ≤ place)) fun s132 =>
  if s132 = true then
   some (([] : List (List UInt8)), s105.2)
  else
   (
    need (InB place (rsLen s124.2)) <|
    (rLdP s105.2 (rsPtr s124.2 place 1)).bind fun r171 =>
    dict.Table_string.Chain.loop0.c k s105 ⟨([] : List (List UInt8)), r171⟩).bind fun s166 =>
   some (s166, s105.2)

theorem dict.Table_string.Chain.c_le (k : Nat) (t_ : RP) (old : Bool) (place : Int) (mem : Reg) : OLe (dict.Table_string.Chain.c k t_ old place mem) (dict.Table_string.Chain t_ old place mem) := by
 unfold dict.Table_string.Chain.c dict.Table_string.Chain
 repeat' with_reducible first | exact OLe.refl _ | apply dict.Table_string.ready.c_le | apply dict.Table_string.Chain.loop0.c_le | apply OLe.bind | apply OLe.need | apply OLe.letO | apply OLe.onSum | apply OLe.ite | intro _

def dict.Table_string.Keys.body2.c (k : Nat) (r761 : RS) (t_ : RP) (s720 : dict.Table_string.Keys.S0) (s775 : dict.Table_string.Keys.S2) : Option (dict.Table_string.Keys.S2 ⊕ (Reg × (List (List UInt8)))) :=
 if s775.t20 < (rsLen r761 : Int) then
  (dict.Table_string.Chain.c k t_ (decide (s720.t9 = 0)) s775.t20 s775.mem).bind fun r780 =>
  need ((s775.v.length + r780.1.length) * 16 ≤ 140737488355328) <|
  some (.inl ⟨IntKind.wrap .i64 (s775.t20 + 1), r780.2, s775.v ++ r780.1⟩)
 else
  some (.inr (s775.mem, s775.v))

theorem dict.Table_string.Keys.body2.c_le (k : Nat) (r761 : RS) (t_ : RP) (s720 : dict.Table_string.Keys.S0) (s775 : dict.Table_string.Keys.S2) : OLe (dict.Table_string.Keys.body2.c k r761 t_ s720 s775) (dict.Table_string.Keys.body2 r761 t_ s720 s775) := by
 unfold dict.Table_string.Keys.body2.c dict.Table_string.Keys.body2
 repeat' with_reducible first | exact OLe.refl _ | apply dict.Table_string.Chain.c_le | apply OLe.bind | apply OLe.need | apply OLe.letO | apply OLe.onSum | apply OLe.ite | intro _

def dict.Table_string.Keys.loop2.c (k : Nat) (r761 : RS) (t_ : RP) (s720 : dict.Table_string.Keys.S0) (s775 : dict.Table_string.Keys.S2) : Option (Reg × (List (List UInt8))) := iterO (dict.Table_string.Keys.body2.c k r761 t_ s720) k s775

theorem dict.Table_string.Keys.loop2.c_le (k : Nat) (r761 : RS) (t_ : RP) (s720 : dict.Table_string.Keys.S0) (s775 : dict.Table_string.Keys.S2) : OLe (dict.Table_string.Keys.loop2.c k r761 t_ s720 s775) (dict.Table_string.Keys.loop2 r761 t_ s720 s775) := by
 unfold dict.Table_string.Keys.loop2.c dict.Table_string.Keys.loop2
 exact OLe.iter (fun s => dict.Table_string.Keys.body2.c_le k r761 t_ s720 s) k _

def dict.Table_string.Keys.body0.c (k : Nat) (t_ : RP) (s720 : dict.Table_string.Keys.S0) : Option (dict.Table_string.Keys.S0 ⊕ ((List (List UInt8)) × Reg)) :=
 if s720.t9 < 2 then
  (
   need (t_.isSome = true) <|
   need ((rpAdd t_ 1).isSome = true) <|
   need (InB s720.t9 2) <|
   need ((rpAdd (rpAdd t_ 1) (Int.toNat s720.t9 * 2)).isSome = true) <|
   (rLdL s720.mem (rpAdd (rpAdd (rpAdd t_ 1) (Int.toNat s720.t9 * 2)) 1)).bind fun r761 =>
   dict.Table_string.Keys.loop2.c k r761 t_ s720 ⟨0, s720.mem, s720.v⟩).bind fun s753 =>
  some (.inl ⟨IntKind.wrap .i64 (s720.t9 + 1), s753.1, s753.2⟩)
 else
  some (.inr (s720.v, s720.mem))

theorem dict.Table_string.Keys.body0.c_le (k : Nat) (t_ : RP) (s720 : dict.Table_string.Keys.S0) : OLe (dict.Table_string.Keys.body0.c k t_ s720) (dict.Table_string.Keys.body0 t_ s720) := by
 unfold dict.Table_string.Keys.body0.c dict.Table_string.Keys.body0
 repeat' with_reducible first | exact OLe.refl _ | apply dict.Table_string.Keys.loop2.c_le | apply OLe.bind | apply OLe.need | apply OLe.letO | apply OLe.onSum | apply OLe.ite | intro _

def dict.Table_string.Keys.loop0.c (k : Nat) (t_ : RP) (s720 : dict.Table_string.Keys.S0) : Option ((List (List UInt8)) × Reg) := iterO (dict.Table_string.Keys.body0.c k t_) k s720

theorem dict.Table_string.Keys.loop0.c_le (k : Nat) (t_ : RP) (s720 : dict.Table_string.Keys.S0) : OLe (dict.Table_string.Keys.loop0.c k t_ s720) (dict.Table_string.Keys.loop0 t_ s720) := by
 unfold dict.Table_string.Keys.loop0.c dict.Table_string.Keys.loop0
 exact OLe.iter (fun s => dict.Table_string.Keys.body0.c_le k t_ s) k _

def dict.Table_string.Keys.c (k : Nat) (t_ : RP) (mem : Reg) : Option ((List (List UInt8)) × Reg) :=
 if t_.isNone = true then
  some (([] : List (List UInt8)), mem)
 else
  (dict.Table_string.Keys.loop0.c k t_ ⟨0, mem, ([] : List (List UInt8))⟩).bind fun s589 =>
  some (s589.1, s589.2)

theorem dict.Table_string.Keys.c_le (k : Nat) (t_ : RP) (mem : Reg) : OLe (dict.Table_string.Keys.c k t_ mem) (dict.Table_string.Keys t_ mem) := by
 unfold dict.Table_string.Keys.c dict.Table_string.Keys
 repeat' with_reducible first | exact OLe.refl _ | apply dict.Table_string.Keys.loop0.c_le | apply OLe.bind | apply OLe.need | apply OLe.letO | apply OLe.onSum | apply OLe.ite | intro _

def slices.Sort_string.c (k : Nat) (x : List (List UInt8)) : Option (List (List UInt8)) :=
 need (x.length < 4611686018427387904) <|
 some (x.mergeSort fun a b => decide (a ≤ b))

theorem slices.Sort_string.c_le (k : Nat) (x : List (List UInt8)) : OLe (slices.Sort_string.c k x) (slices.Sort_string x) := by
 unfold slices.Sort_string.c slices.Sort_string
 repeat' with_reducible first | exact OLe.refl _ | apply OLe.bind | apply OLe.need | apply OLe.letO | apply OLe.onSum | apply OLe.ite | intro _

def dict.Table_string.Get.c (k : Nat) (t_ : RP) (key : List UInt8) (mem : Reg) : Option ((List UInt8) × Bool) :=
 (
  (
   if t_.isSome = true then
    need (t_.isSome = true) <|
    (rLdI .i64 mem (rpAdd t_ 7)).bind fun r65 =>
    some (decide (0 < r65))
   else
    some false).bind fun s60 =>
  if s60 = true then
   (dict.Table_string.find.c k t_ key mem).bind fun r66 =>
   if r66.isSome = true then
    need (r66.isSome = true) <|
    (rLdP mem r66).bind fun r68 =>
    need (r68.isSome = true) <|
    (rLdS mem (rpAdd r68 1)).bind fun r70 =>
    some (.inr (r70, true))
   else
    some (.inl ())
  else
   some (.inl ())).bind fun s74 => onSum s74 (fun s54 =>
  some (([] : List UInt8), false)) fun s74x => some s74x

theorem dict.Table_string.Get.c_le (k : Nat) (t_ : RP) (key : List UInt8) (mem : Reg) : OLe (dict.Table_string.Get.c k t_ key mem) (dict.Table_string.Get t_ key mem) := by
 unfold dict.Table_string.Get.c dict.Table_string.Get
 repeat' with_reducible first | exact OLe.refl _ | apply dict.Table_string.find.c_le | apply OLe.bind | apply OLe.need | apply OLe.letO | apply OLe.onSum | apply OLe.ite | intro _

def field.Get.body0.c (k : Nat) (keys : List (List UInt8)) (t_ : RP) (mem : Reg) (s208 : field.Get.S0) : Option (field.Get.S0 ⊕ (List api.Field)) :=
 if s208.t12 < (keys.length : Int) then
  (
   need (InB s208.t12 keys.length) <|
   (dict.Table_string.Get.c k t_ (ix keys s208.t12) mem).bind fun r223 =>
   if r223.2 = true then
    need ((s208.out.length + [({ Key := ix keys s208.t12, Val := r223.1 } : api.Field)].length) * 32 ≤ 140737488355328) <|
    some (s208.out ++ [({ Key := ix keys s208.t12, Val := r223.1 } : api.Field)])
   else
    some s208.out).bind fun s218 =>
  some (.inl ⟨s218, IntKind.wrap .i64 (s208.t12 + 1)⟩)
 else
  some (.inr s208.out)

theorem field.Get.body0.c_le (k : Nat) (keys : List (List UInt8)) (t_ : RP) (mem : Reg) (s208 : field.Get.S0) : OLe (field.Get.body0.c k keys t_ mem s208) (field.Get.body0 keys t_ mem s208) := by
 unfold field.Get.body0.c field.Get.body0
 repeat' with_reducible first | exact OLe.refl _ | apply dict.Table_string.Get.c_le | apply OLe.bind | apply OLe.need | apply OLe.letO | apply OLe.onSum | apply OLe.ite | intro _

def field.Get.loop0.c (k : Nat) (keys : List (List UInt8)) (t_ : RP) (mem : Reg) (s208 : field.Get.S0) : Option (List api.Field) := iterO (field.Get.body0.c k keys t_ mem) k s208

theorem field.Get.loop0.c_le (k : Nat) (keys : List (List UInt8)) (t_ : RP) (mem : Reg) (s208 : field.Get.S0) : OLe (field.Get.loop0.c k keys t_ mem s208) (field.Get.loop0 keys t_ mem s208) := by
 unfold field.Get.loop0.c field.Get.loop0
 exact OLe.iter (fun s => field.Get.body0.c_le k keys t_ mem s) k _

def field.Get.c (k : Nat) (t_ : RP) (keys : List (List UInt8)) (mem : Reg) : Option (List api.Field) :=
 (field.Get.loop0.c k keys t_ mem ⟨([] : List api.Field), 0⟩).bind fun s170 =>
 some s170

theorem field.Get.c_le (k : Nat) (t_ : RP) (keys : List (List UInt8)) (mem : Reg) : OLe (field.Get.c k t_ keys mem) (field.Get t_ keys mem) := by
 unfold field.Get.c field.Get
 repeat' with_reducible first | exact OLe.refl _ | apply field.Get.loop0.c_le | apply OLe.bind | apply OLe.need | apply OLe.letO | apply OLe.onSum | apply OLe.ite | intro _

def field.All.c (k : Nat) (t_ : RP) (mem : Reg) : Option ((List api.Field) × Reg) :=
 (dict.Table_string.Keys.c k t_ mem).bind fun r6 =>
 (slices.Sort_string.c k r6.1).bind fun r8 =>
 (field.Get.c k t_ r8 r6.2).bind fun r9 =>
 some (r9, r6.2)

theorem field.All.c_le (k : Nat) (t_ : RP) (mem : Reg) : OLe (field.All.c k t_ mem) (field.All t_ mem) := by
 unfold field.All.c field.All
 repeat' with_reducible first | exact OLe.refl _ | apply dict.Table_string.Keys.c_le | apply slices.Sort_string.c_le | apply field.Get.c_le | apply OLe.bind | apply OLe.need | apply OLe.letO | apply OLe.onSum | apply OLe.ite | intro _

def mewsref19.texts.body0.c (k : Nat) (a : List (List UInt8)) (b : List (List UInt8)) (s73 : mewsref19.texts.S0) : Option (mewsref19.texts.S0 ⊕ (Unit ⊕ Bool)) :=
 if s73.i < (a.length : Int) then
  need (InB s73.i a.length) <|
  need (InB s73.i b.length) <|
  if (ix a s73.i) = (ix b s73.i) then
   some (.inl ⟨IntKind.wrap .i64 (s73.i + 1)⟩)
  else
   some (.inr (.inr false))
 else
  some (.inr (.inl ()))

theorem mewsref19.texts.body0.c_le (k : Nat) (a : List (List UInt8)) (b : List (List UInt8)) (s73 : mewsref19.texts.S0) : OLe (mewsref19.texts.body0.c k a b s73) (mewsref19.texts.body0 a b s73) := by
 unfold mewsref19.texts.body0.c mewsref19.texts.body0
 repeat' with_reducible first | exact OLe.refl _ | apply OLe.bind | apply OLe.need | apply OLe.letO | apply OLe.onSum | apply OLe.ite | intro _

def mewsref19.texts.loop0.c (k : Nat) (a : List (List UInt8)) (b : List (List UInt8)) (s73 : mewsref19.texts.S0) : Option (Unit ⊕ Bool) := iterO (mewsref19.texts.body0.c k a b) k s73

theorem mewsref19.texts.loop0.c_le (k : Nat) (a : List (List UInt8)) (b : List (List UInt8)) (s73 : mewsref19.texts.S0) : OLe (mewsref19.texts.loop0.c k a b s73) (mewsref19.texts.loop0 a b s73) := by
 unfold mewsref19.texts.loop0.c mewsref19.texts.loop0
 exact OLe.iter (fun s => mewsref19.texts.body0.c_le k a b s) k _

def mewsref19.texts.c (k : Nat) (a : List (List UInt8)) (b : List (List UInt8)) : Option Bool :=
 if (a.length : Int) = (b.length : Int) then
  (mewsref19.texts.loop0.c k a b ⟨0⟩).bind fun s81 => onSum s81 (fun s60 =>
   some true) fun s81x => some s81x
 else
  some false

theorem mewsref19.texts.c_le (k : Nat) (a : List (List UInt8)) (b : List (List UInt8)) : OLe (mewsref19.texts.c k a b) (mewsref19.texts a b) := by
 unfold mewsref19.texts.c mewsref19.texts
 repeat' with_reducible first | exact OLe.refl _ | apply mewsref19.texts.loop0.c_le | apply OLe.bind | apply OLe.need | apply OLe.letO | apply OLe.onSum | apply OLe.ite | intro _

def mewsref19.fields.body0.c (k : Nat) (a : List api.Field) (b : List api.Field) (s73 : mewsref19.fields.S0) : Option (mewsref19.fields.S0 ⊕ (Unit ⊕ Bool)) :=
 if s73.i < (a.length : Int) then
  need (InB s73.i a.length) <|
  need (InB s73.i b.length) <|
  if (ix a s73.i) = (ix b s73.i) then
   some (.inl ⟨IntKind.wrap .i64 (s73.i + 1)⟩)
  else
   some (.inr (.inr false))
 else
  some (.inr (.inl ()))

theorem mewsref19.fields.body0.c_le (k : Nat) (a : List api.Field) (b : List api.Field) (s73 : mewsref19.fields.S0) : OLe (mewsref19.fields.body0.c k a b s73) (mewsref19.fields.body0 a b s73) := by
 unfold mewsref19.fields.body0.c mewsref19.fields.body0
 repeat' with_reducible first | exact OLe.refl _ | apply OLe.bind | apply OLe.need | apply OLe.letO | apply OLe.onSum | apply OLe.ite | intro _

def mewsref19.fields.loop0.c (k : Nat) (a : List api.Field) (b : List api.Field) (s73 : mewsref19.fields.S0) : Option (Unit ⊕ Bool) := iterO (mewsref19.fields.body0.c k a b) k s73

theorem mewsref19.fields.loop0.c_le (k : Nat) (a : List api.Field) (b : List api.Field) (s73 : mewsref19.fields.S0) : OLe (mewsref19.fields.loop0.c k a b s73) (mewsref19.fields.loop0 a b s73) := by
 unfold mewsref19.fields.loop0.c mewsref19.fields.loop0
 exact OLe.iter (fun s => mewsref19.fields.body0.c_le k a b s) k _

def mewsref19.fields.c (k : Nat) (a : List api.Field) (b : List api.Field) : Option Bool :=
 if (a.length : Int) = (b.length : Int) then
  (mewsref19.fields.loop0.c k a b ⟨0⟩).bind fun s81 => onSum s81 (fun s60 =>
   some true) fun s81x => some s81x
 else
  some false

theorem mewsref19.fields.c_le (k : Nat) (a : List api.Field) (b : List api.Field) : OLe (mewsref19.fields.c k a b) (mewsref19.fields a b) := by
 unfold mewsref19.fields.c mewsref19.fields
 repeat' with_reducible first | exact OLe.refl _ | apply mewsref19.fields.loop0.c_le | apply OLe.bind | apply OLe.need | apply OLe.letO | apply OLe.onSum | apply OLe.ite | intro _

def mewsref10.Same.body0.c (k : Nat) (a : List api.Scored) (b : List api.Scored) (s73 : mewsref10.Same.S0) : Option (mewsref10.Same.S0 ⊕ (Unit ⊕ Bool)) :=
 if s73.i < (a.length : Int) then
  need (InB s73.i a.length) <|
  need (InB s73.i b.length) <|
  if (ix a s73.i) = (ix b s73.i) then
   some (.inl ⟨IntKind.wrap .i64 (s73.i + 1)⟩)
  else
   some (.inr (.inr false))
 else
  some (.inr (.inl ()))

theorem mewsref10.Same.body0.c_le (k : Nat) (a : List api.Scored) (b : List api.Scored) (s73 : mewsref10.Same.S0) : OLe (mewsref10.Same.body0.c k a b s73) (mewsref10.Same.body0 a b s73) := by
 unfold mewsref10.Same.body0.c mewsref10.Same.body0
 repeat' with_reducible first | exact OLe.refl _ | apply OLe.bind | apply OLe.need | apply OLe.letO | apply OLe.onSum | apply OLe.ite | intro _

def mewsref10.Same.loop0.c (k : Nat) (a : List api.Scored) (b : List api.Scored) (s73 : mewsref10.Same.S0) : Option (Unit ⊕ Bool) := iterO (mewsref10.Same.body0.c k a b) k s73

theorem mewsref10.Same.loop0.c_le (k : Nat) (a : List api.Scored) (b : List api.Scored) (s73 : mewsref10.Same.S0) : OLe (mewsref10.Same.loop0.c k a b s73) (mewsref10.Same.loop0 a b s73) := by
 unfold mewsref10.Same.loop0.c mewsref10.Same.loop0
 exact OLe.iter (fun s => mewsref10.Same.body0.c_le k a b s) k _

def mewsref10.Same.c (k : Nat) (a : List api.Scored) (b : List api.Scored) : Option Bool :=
 if (a.length : Int) = (b.length : Int) then
  (mewsref10.Same.loop0.c k a b ⟨0⟩).bind fun s81 => onSum s81 (fun s60 =>
   some true) fun s81x => some s81x
 else
  some false

theorem mewsref10.Same.c_le (k : Nat) (a : List api.Scored) (b : List api.Scored) : OLe (mewsref10.Same.c k a b) (mewsref10.Same a b) := by
 unfold mewsref10.Same.c mewsref10.Same
 repeat' with_reducible first | exact OLe.refl _ | apply mewsref10.Same.loop0.c_le | apply OLe.bind | apply OLe.need | apply OLe.letO | apply OLe.onSum | apply OLe.ite | intro _

def mewsref19.Same.c (k : Nat) (a : api.Value) (b : api.Value) : Option Bool :=
 (
  if a.Kind = b.Kind then
   if a.Text = b.Text then
    (mewsref19.texts.c k a.List_ b.List_).bind fun r34 =>
    if r34 = true then
     (mewsref19.fields.c k a.Hash b.Hash).bind fun r36 =>
     if r36 = true then
      (mewsref10.Same.c k a.ZSet b.ZSet).bind fun r38 =>
      some r38
     else
      some false
    else
     some false
   else
    some false
  else
   some false).bind fun s29 =>
 some s29

theorem mewsref19.Same.c_le (k : Nat) (a : api.Value) (b : api.Value) : OLe (mewsref19.Same.c k a b) (mewsref19.Same a b) := by
 unfold mewsref19.Same.c mewsref19.Same
 repeat' with_reducible first | exact OLe.refl _ | apply mewsref19.texts.c_le | apply mewsref19.fields.c_le | apply mewsref10.Same.c_le | apply OLe.bind | apply OLe.need | apply OLe.letO | apply OLe.onSum | apply OLe.ite | intro _

def mewsref22.Same.c (k : Nat) (a : List api.Field) (b : List api.Field) : Option Bool :=
 (mewsref19.Same.c k ({ Kind := 0, Text := ([] : List UInt8), List_ := ([] : List (List UInt8)), Hash := a, ZSet := ([] : List api.Scored) } : api.Value) ({ Kind := 0, Text := ([] : List UInt8), List_ := ([] : List (List UInt8)), Hash := b, ZSet := ([] : List api.Scored) } : api.Value)).bind fun r2 =>
 some r2

theorem mewsref22.Same.c_le (k : Nat) (a : List api.Field) (b : List api.Field) : OLe (mewsref22.Same.c k a b) (mewsref22.Same a b) := by
 unfold mewsref22.Same.c mewsref22.Same
 repeat' with_reducible first | exact OLe.refl _ | apply mewsref19.Same.c_le | apply OLe.bind | apply OLe.need | apply OLe.letO | apply OLe.onSum | apply OLe.ite | intro _

def mewslaw22.alive.c (k : Nat)  : Option Bool :=
 (dict.New_string.c k 1 ([] : Reg)).bind fun r14 =>
 (field.Put.c k r14.1 [({ Key := [97], Val := [49] } : api.Field), ({ Key := [98], Val := [50] } : api.Field), ({ Key := [97], Val := [51] } : api.Field)] r14.2).bind fun r15 =>
 (
  if r15.1 = 2 then
   (field.All.c k r14.1 r15.2).bind fun r24 =>
   (mewsref22.Same.c k r24.1 [({ Key := [97], Val := [51] } : api.Field), ({ Key := [98], Val := [50] } : api.Field)]).bind fun r26 =>
   some (r26, r24.2)
  else
   some (false, r15.2)).bind fun s20 =>
 some s20.1

theorem mewslaw22.alive.c_le (k : Nat)  : OLe (mewslaw22.alive.c k ) (mewslaw22.alive ) := by
 unfold mewslaw22.alive.c mewslaw22.alive
 repeat' with_reducible first | exact OLe.refl _ | apply dict.New_string.c_le | apply field.Put.c_le | apply field.All.c_le | apply mewsref22.Same.c_le | apply OLe.bind | apply OLe.need | apply OLe.letO | apply OLe.onSum | apply OLe.ite | intro _

end Go.Pu
