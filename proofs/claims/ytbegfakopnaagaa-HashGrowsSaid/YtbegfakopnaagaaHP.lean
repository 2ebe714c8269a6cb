/- Printed by lift.py: the functions over data. -/
import Derived.Test.YtbegfakopnaagaaHT
set_option maxRecDepth 100000
set_option maxHeartbeats 0
namespace Go.Pu
open Go.Lift

noncomputable def hash.size (b : Int) : Option Int :=
  some (if 16 < (if b < 0 then 0 else b) then 16 else (if b < 0 then 0 else b))

noncomputable def hash.low (n_ : Int) (b : Int) : Option Int :=
  (hash.size b).bind fun r3 =>
  need ((0 : Int) ≤ r3) <|
  some (Go.bits .and .u64 n_ (IntKind.wrap .u64 ((IntKind.wrap .u64 (1 * 2 ^ min (Int.toNat r3) (IntKind.bits .u64))) - 1)))

noncomputable def bits.ReverseBytes64 (x_ : Int) : Option Int :=
  letO (Go.bits .or .u64 (Go.bits .and .u64 (x_ / 2 ^ min (Int.toNat 8) (IntKind.bits .u64)) 71777214294589695) (IntKind.wrap .u64 ((Go.bits .and .u64 x_ 71777214294589695) * 2 ^ min (Int.toNat 8) (IntKind.bits .u64)))) fun x4 =>
  letO (Go.bits .or .u64 (Go.bits .and .u64 (x4 / 2 ^ min (Int.toNat 16) (IntKind.bits .u64)) 281470681808895) (IntKind.wrap .u64 ((Go.bits .and .u64 x4 281470681808895) * 2 ^ min (Int.toNat 16) (IntKind.bits .u64)))) fun x5 =>
  letO (Go.bits .or .u64 (x5 / 2 ^ min (Int.toNat 32) (IntKind.bits .u64)) (IntKind.wrap .u64 (x5 * 2 ^ min (Int.toNat 32) (IntKind.bits .u64)))) fun x6 =>
  some x6

noncomputable def bits.Reverse64 (x_ : Int) : Option Int :=
  letO (Go.bits .or .u64 (Go.bits .and .u64 (x_ / 2 ^ min (Int.toNat 1) (IntKind.bits .u64)) 6148914691236517205) (IntKind.wrap .u64 ((Go.bits .and .u64 x_ 6148914691236517205) * 2 ^ min (Int.toNat 1) (IntKind.bits .u64)))) fun x5 =>
  letO (Go.bits .or .u64 (Go.bits .and .u64 (x5 / 2 ^ min (Int.toNat 2) (IntKind.bits .u64)) 3689348814741910323) (IntKind.wrap .u64 ((Go.bits .and .u64 x5 3689348814741910323) * 2 ^ min (Int.toNat 2) (IntKind.bits .u64)))) fun x6 =>
  letO (Go.bits .or .u64 (Go.bits .and .u64 (x6 / 2 ^ min (Int.toNat 4) (IntKind.bits .u64)) 1085102592571150095) (IntKind.wrap .u64 ((Go.bits .and .u64 x6 1085102592571150095) * 2 ^ min (Int.toNat 4) (IntKind.bits .u64)))) fun x7 =>
  (bits.ReverseBytes64 x7).bind fun r8 =>
  some r8

noncomputable def hash.Turn (n_ : Int) (b : Int) : Option Int :=
  (hash.size b).bind fun r7 =>
  if r7 = 0 then
    some 0
  else
    (hash.low n_ b).bind fun r8 =>
    (bits.Reverse64 r8).bind fun r9 =>
    (hash.size b).bind fun r10 =>
    need ((0 : Int) ≤ IntKind.wrap .i64 (64 - r10)) <|
    some (r9 / 2 ^ min (Int.toNat (IntKind.wrap .i64 (64 - r10))) (IntKind.bits .u64))

noncomputable def mewsref06.Size (b : Int) : Option Int :=
  if b < 0 then
    some 0
  else
    if 16 < b then
      some 16
    else
      some b

structure mewsref06.Turn.S0 where
  n : Int
  out : Int
  i : Int

noncomputable def mewsref06.Turn.body0 (b : Int) (s44 : mewsref06.Turn.S0) : Option (mewsref06.Turn.S0 ⊕ Int) :=
  (mewsref06.Size b).bind fun r47 =>
  if s44.i < r47 then
    some (.inl ⟨IntKind.wrap .u64 (s44.n.tdiv 2), IntKind.wrap .u64 ((IntKind.wrap .u64 (s44.out * 2)) + (s44.n.tmod 2)), IntKind.wrap .i64 (s44.i + 1)⟩)
  else
    some (.inr s44.out)

noncomputable def mewsref06.Turn.loop0 (b : Int) (s44 : mewsref06.Turn.S0) : Option Int := whileO (mewsref06.Turn.body0 b) s44

noncomputable def mewsref06.Turn (n_ : Int) (b : Int) : Option Int :=
  (mewsref06.Turn.loop0 b ⟨n_, 0, 0⟩).bind fun s36 =>
  some s36

noncomputable def hash.Next (cursor : Int) (b : Int) : Option Int :=
  (hash.Turn cursor b).bind fun r3 =>
  (hash.Turn (IntKind.wrap .u64 (r3 + 1)) b).bind fun r4 =>
  some r4

structure mewsref06.Places.S0 where
  n : Int
  i : Int

noncomputable def mewsref06.Places.body0 (b : Int) (s44 : mewsref06.Places.S0) : Option (mewsref06.Places.S0 ⊕ Int) :=
  (mewsref06.Size b).bind fun r47 =>
  if s44.i < r47 then
    some (.inl ⟨IntKind.wrap .u64 (s44.n * 2), IntKind.wrap .i64 (s44.i + 1)⟩)
  else
    some (.inr s44.n)

noncomputable def mewsref06.Places.loop0 (b : Int) (s44 : mewsref06.Places.S0) : Option Int := whileO (mewsref06.Places.body0 b) s44

noncomputable def mewsref06.Places (b : Int) : Option Int :=
  (mewsref06.Places.loop0 b ⟨1, 0⟩).bind fun s36 =>
  some s36

structure mewsref06.Next.S0 where
  c : Int
  bit : Int

noncomputable def mewsref06.Next.body0  (s113 : mewsref06.Next.S0) : Option (mewsref06.Next.S0 ⊕ (Int × Int)) :=
  (
    if 0 < s113.bit then
      need (¬ s113.bit = 0) <|
      some (decide (((IntKind.wrap .u64 (s113.c.tdiv s113.bit)).tmod 2) = 1))
    else
      some false).bind fun s118 =>
  if s118 = true then
    some (.inl ⟨IntKind.wrap .u64 (s113.c - s113.bit), IntKind.wrap .u64 (s113.bit.tdiv 2)⟩)
  else
    some (.inr (s113.c, s113.bit))

noncomputable def mewsref06.Next.loop0  (s113 : mewsref06.Next.S0) : Option (Int × Int) := whileO (mewsref06.Next.body0 ) s113

noncomputable def mewsref06.Next (cursor : Int) (b : Int) : Option Int :=
  (mewsref06.Places b).bind fun r62 =>
  need (¬ r62 = 0) <|
  (mewsref06.Places b).bind fun r64 =>
  (mewsref06.Next.loop0  ⟨cursor.tmod r62, IntKind.wrap .u64 (r64.tdiv 2)⟩).bind fun s93 =>
  some (IntKind.wrap .u64 (s93.1 + s93.2))

structure hash.Walk.S0 where
  t11 : Int
  v : List Int

noncomputable def hash.Walk.body0 (r41 : Int) (b : Int) (s74 : hash.Walk.S0) : Option (hash.Walk.S0 ⊕ (List Int)) :=
  if s74.t11 < ((List.replicate (Int.toNat (IntKind.wrap .i64 (1 * 2 ^ min (Int.toNat r41) (IntKind.bits .i64)))) (0 : Int)).length : Int) then
    (hash.Turn (IntKind.wrap .u64 s74.t11) b).bind fun r77 =>
    need (InB s74.t11 s74.v.length) <|
    need (InB s74.t11 s74.v.length) <|
    some (.inl ⟨IntKind.wrap .i64 (s74.t11 + 1), upd s74.v s74.t11 r77⟩)
  else
    some (.inr s74.v)

noncomputable def hash.Walk.loop0 (r41 : Int) (b : Int) (s74 : hash.Walk.S0) : Option (List Int) := whileO (hash.Walk.body0 r41 b) s74

noncomputable def hash.Walk (b : Int) : Option (List Int) :=
  (hash.size b).bind fun r41 =>
  need ((0 : Int) ≤ r41) <|
  need (Room (IntKind.wrap .i64 (1 * 2 ^ min (Int.toNat r41) (IntKind.bits .i64))) 8) <|
  (hash.Walk.loop0 r41 b ⟨0, List.replicate (Int.toNat (IntKind.wrap .i64 (1 * 2 ^ min (Int.toNat r41) (IntKind.bits .i64)))) (0 : Int)⟩).bind fun s62 =>
  some s62

structure hash.Of.S0 where
  h : Int
  t13 : Int

noncomputable def hash.Of.body0 (s_ : List UInt8) (s78 : hash.Of.S0) : Option (hash.Of.S0 ⊕ Int) :=
  if s78.t13 < (s_.length : Int) then
    need (InB s78.t13 s_.length) <|
    some (.inl ⟨IntKind.wrap .u64 ((Go.bits .xor .u64 s78.h (IntKind.wrap .u64 (bix s_ s78.t13))) * 1099511628211), IntKind.wrap .i64 (s78.t13 + 1)⟩)
  else
    some (.inr s78.h)

noncomputable def hash.Of.loop0 (s_ : List UInt8) (s78 : hash.Of.S0) : Option Int := whileO (hash.Of.body0 s_) s78

structure hash.Of.S2 where
  h : Int
  t25 : Int

noncomputable def hash.Of.body2  (s107 : hash.Of.S2) : Option (hash.Of.S2 ⊕ Int) :=
  if s107.t25 < 3 then
    need (InB s107.t25 3) <|
    letO (IntKind.wrap .u64 ((Go.bits .xor .u64 s107.h (s107.h / 2 ^ min (Int.toNat 33) (IntKind.bits .u64))) * (ix ([18397679294719823053, 14181476777654086739, 1] : List Int) s107.t25))) fun x111 =>
    some (.inl ⟨x111, IntKind.wrap .i64 (s107.t25 + 1)⟩)
  else
    some (.inr s107.h)

noncomputable def hash.Of.loop2  (s107 : hash.Of.S2) : Option Int := whileO (hash.Of.body2 ) s107

noncomputable def hash.Of (seed : Int) (s_ : List UInt8) : Option Int :=
  (hash.Of.loop0 s_ ⟨Go.bits .xor .u64 14695981039346656037 seed, 0⟩).bind fun s69 =>
  (hash.Of.loop2  ⟨s69, 0⟩).bind fun s97 =>
  some s97

noncomputable def mewslaw06.alive  : Option Bool :=
  (hash.Walk 2).bind fun r22 =>
  (
    if (r22.length : Int) = 4 then
      need (InB 1 r22.length) <|
      if (ix r22 1) = 2 then
        need (InB 2 r22.length) <|
        if (ix r22 2) = 1 then
          (hash.Next 3 2).bind fun r39 =>
          if r39 = 0 then
            (hash.Of 1 [97]).bind fun r41 =>
            (hash.Of 2 [97]).bind fun r42 =>
            some (!decide (r41 = r42))
          else
            some false
        else
          some false
      else
        some false
    else
      some false).bind fun s32 =>
  some s32

noncomputable def mewslaw06.HashTurns (n_ : Int) (b : Int) : Option Bool :=
  (
    (hash.Turn n_ b).bind fun r41 =>
    (mewsref06.Turn n_ b).bind fun r42 =>
    if r41 = r42 then
      (hash.Next n_ b).bind fun r44 =>
      (mewsref06.Next n_ b).bind fun r45 =>
      if r44 = r45 then
        (hash.Turn n_ b).bind fun r47 =>
        (hash.Turn r47 b).bind fun r48 =>
        (mewsref06.Places b).bind fun r49 =>
        need (¬ r49 = 0) <|
        if r48 = (n_.tmod r49) then
          (mewslaw06.alive).bind fun r52 =>
          some r52
        else
          some false
      else
        some false
    else
      some false).bind fun s39 =>
  some s39

structure mewslaw06.HashWalks.S0 where
  t26 : Int
  v : List Bool

noncomputable def mewslaw06.HashWalks.body0 (r219 : List Int) (r220 : Int) (b : Int) (s391 : mewslaw06.HashWalks.S0) : Option (mewslaw06.HashWalks.S0 ⊕ (Unit ⊕ Bool)) :=
  if s391.t26 < (r219.length : Int) then
    need (InB s391.t26 r219.length) <|
    (
      if r220 ≤ (ix r219 s391.t26) then
        some true
      else
        need (InB (ix r219 s391.t26) s391.v.length) <|
        need (InB (ix r219 s391.t26) s391.v.length) <|
        if (ix s391.v (ix r219 s391.t26)) = true then
          some true
        else
          if s391.t26 = 0 then
            if (ix r219 s391.t26) = 0 then
              if 0 < s391.t26 then
                need (InB (IntKind.wrap .i64 (s391.t26 - 1)) r219.length) <|
                (hash.Next (ix r219 (IntKind.wrap .i64 (s391.t26 - 1))) b).bind fun r417 =>
                some (!decide (r417 = (ix r219 s391.t26)))
              else
                some false
            else
              some true
          else
            if 0 < s391.t26 then
              need (InB (IntKind.wrap .i64 (s391.t26 - 1)) r219.length) <|
              (hash.Next (ix r219 (IntKind.wrap .i64 (s391.t26 - 1))) b).bind fun r420 =>
              some (!decide (r420 = (ix r219 s391.t26)))
            else
              some false).bind fun s407 =>
    if s407 = true then
      some (.inr (.inr false))
    else
      need (InB (ix r219 s391.t26) s391.v.length) <|
      need (InB (ix r219 s391.t26) s391.v.length) <|
      some (.inl ⟨IntKind.wrap .i64 (s391.t26 + 1), upd s391.v (ix r219 s391.t26) true⟩)
  else
    some (.inr (.inl ()))

noncomputable def mewslaw06.HashWalks.loop0 (r219 : List Int) (r220 : Int) (b : Int) (s391 : mewslaw06.HashWalks.S0) : Option (Unit ⊕ Bool) := whileO (mewslaw06.HashWalks.body0 r219 r220 b) s391

noncomputable def mewslaw06.HashWalks (b : Int) : Option Bool :=
  (hash.Walk b).bind fun r219 =>
  (mewsref06.Places b).bind fun r220 =>
  letO (
    if (r219.length : Int) = 0 then
      true
    else
      (!decide ((IntKind.wrap .u64 (r219.length : Int)) = r220))) fun s222 =>
  if s222 = true then
    some false
  else
    need (Room r220 1) <|
    (mewslaw06.HashWalks.loop0 r219 r220 b ⟨0, List.replicate (Int.toNat r220) (false : Bool)⟩).bind fun s435 => onSum s435 (fun s325 =>
      (
        need (InB (IntKind.wrap .i64 ((r219.length : Int) - 1)) r219.length) <|
        (hash.Next (ix r219 (IntKind.wrap .i64 ((r219.length : Int) - 1))) b).bind fun r432 =>
        if r432 = 0 then
          (mewslaw06.alive).bind fun r434 =>
          some r434
        else
          some false).bind fun s429 =>
      some s429) fun s435x => some s435x

structure mewsref06.Of.S0 where
  h : Int
  i : Int

noncomputable def mewsref06.Of.body0 (s_ : List UInt8) (s51 : mewsref06.Of.S0) : Option (mewsref06.Of.S0 ⊕ Int) :=
  if s51.i < (s_.length : Int) then
    need (InB s51.i s_.length) <|
    some (.inl ⟨IntKind.wrap .u64 ((Go.bits .xor .u64 s51.h (IntKind.wrap .u64 (bix s_ s51.i))) * 1099511628211), IntKind.wrap .i64 (s51.i + 1)⟩)
  else
    some (.inr s51.h)

noncomputable def mewsref06.Of.loop0 (s_ : List UInt8) (s51 : mewsref06.Of.S0) : Option Int := whileO (mewsref06.Of.body0 s_) s51

noncomputable def mewsref06.Of (seed : Int) (s_ : List UInt8) : Option Int :=
  (mewsref06.Of.loop0 s_ ⟨Go.bits .xor .u64 14695981039346656037 seed, 0⟩).bind fun s42 =>
  letO ((IntKind.wrap .u64 ((Go.bits .xor .u64 s42 (s42 / 2 ^ min (Int.toNat 33) (IntKind.bits .u64))) * 18397679294719823053)) / 2 ^ min (Int.toNat 33) (IntKind.bits .u64)) fun x56 =>
  letO (Go.bits .xor .u64 (IntKind.wrap .u64 ((Go.bits .xor .u64 s42 (s42 / 2 ^ min (Int.toNat 33) (IntKind.bits .u64))) * 18397679294719823053)) x56) fun x57 =>
  letO (Go.bits .xor .u64 (IntKind.wrap .u64 (x57 * 14181476777654086739)) ((IntKind.wrap .u64 (x57 * 14181476777654086739)) / 2 ^ min (Int.toNat 33) (IntKind.bits .u64))) fun x58 =>
  some x58

noncomputable def hash.Place (h_ : Int) (b : Int) : Option Int :=
  (hash.low h_ b).bind fun r2 =>
  some (IntKind.wrap .i64 r2)

noncomputable def mewsref06.Place (h_ : Int) (b : Int) : Option Int :=
  (mewsref06.Places b).bind fun r3 =>
  need (¬ r3 = 0) <|
  some (IntKind.wrap .i64 (h_.tmod r3))

noncomputable def mewslaw06.HashSays (seed : Int) (s_ : List UInt8) (b : Int) : Option Bool :=
  if 10000 < (s_.length : Int) then
    (mewslaw06.alive).bind fun r18 =>
    some r18
  else
    (mewsref06.Of seed s_).bind fun r19 =>
    (
      (hash.Of seed s_).bind fun r28 =>
      if r28 = r19 then
        (hash.Place r19 b).bind fun r30 =>
        (mewsref06.Place r19 b).bind fun r31 =>
        if r30 = r31 then
          (mewslaw06.alive).bind fun r33 =>
          some r33
        else
          some false
      else
        some false).bind fun s26 =>
    some s26

noncomputable def mewslaw06.HashGrows (b : Int) (cursor : Int) (h_ : Int) : Option Bool :=
  (mewsref06.Places (IntKind.wrap .i64 ((IntKind.wrap .u64 b).tmod 16))).bind fun r23 =>
  need (¬ r23 = 0) <|
  (hash.Place h_ (IntKind.wrap .i64 ((IntKind.wrap .u64 b).tmod 16))).bind fun r25 =>
  (hash.Place h_ (IntKind.wrap .i64 ((IntKind.wrap .i64 ((IntKind.wrap .u64 b).tmod 16)) + 1))).bind fun r26 =>
  (hash.Turn (IntKind.wrap .u64 r25) (IntKind.wrap .i64 ((IntKind.wrap .u64 b).tmod 16))).bind fun r27 =>
  (hash.Turn (cursor.tmod r23) (IntKind.wrap .i64 ((IntKind.wrap .u64 b).tmod 16))).bind fun r28 =>
  (
    (mewsref06.Places (IntKind.wrap .i64 ((IntKind.wrap .u64 b).tmod 16))).bind fun r38 =>
    need (¬ r38 = 0) <|
    if ((IntKind.wrap .u64 r26).tmod r38) = (IntKind.wrap .u64 r25) then
      (hash.Turn (IntKind.wrap .u64 r26) (IntKind.wrap .i64 ((IntKind.wrap .i64 ((IntKind.wrap .u64 b).tmod 16)) + 1))).bind fun r41 =>
      (hash.Turn (cursor.tmod r23) (IntKind.wrap .i64 ((IntKind.wrap .i64 ((IntKind.wrap .u64 b).tmod 16)) + 1))).bind fun r42 =>
      if ((decide (r27 < r28)) == (decide (r41 < r42))) = true then
        (mewslaw06.alive).bind fun r44 =>
        some r44
      else
        some false
    else
      some false).bind fun s36 =>
  some s36

end Go.Pu
