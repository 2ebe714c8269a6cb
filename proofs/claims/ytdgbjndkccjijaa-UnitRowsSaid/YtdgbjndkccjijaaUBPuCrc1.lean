/- A sum of 32 bits, as numbers. -/
import Derived.Test.YtdgbjndkccjijaaUBPuBase
import Derived.Test.YtdgbjndkccjijaaUBC
set_option maxRecDepth 100000
namespace Go.Pu
open Go.Lift

theorem u32_xor (a b : Nat) (ha : a < 4294967296) (hb : b < 4294967296) : Go.bits .xor .u32 (a : Int) (b : Int) = ((a ^^^ b : Nat) : Int) := by
 have hx : a ^^^ b < 2 ^ 32 := Nat.xor_lt_two_pow (by omega) (by omega)
 have h1 : (BitVec.ofInt 32 (a : Int)).toNat = a := by
  rw [BitVec.ofInt_natCast, BitVec.toNat_ofNat]; exact Nat.mod_eq_of_lt (by omega)
 have h2 : (BitVec.ofInt 32 (b : Int)).toNat = b := by
  rw [BitVec.ofInt_natCast, BitVec.toNat_ofNat]; exact Nat.mod_eq_of_lt (by omega)
 show IntKind.u32.wrap ((BitVec.ofInt 32 (a : Int) ^^^ BitVec.ofInt 32 (b : Int)).toNat : Int) = _
 rw [BitVec.toNat_xor, h1, h2, u32w (by omega) (by omega)]

theorem u32_and (a b : Nat) (ha : a < 4294967296) (hb : b < 4294967296) : Go.bits .and .u32 (a : Int) (b : Int) = ((a &&& b : Nat) : Int) := by
 have hx : a &&& b < 2 ^ 32 := Nat.and_lt_two_pow _ (by omega)
 have h1 : (BitVec.ofInt 32 (a : Int)).toNat = a := by
  rw [BitVec.ofInt_natCast, BitVec.toNat_ofNat]; exact Nat.mod_eq_of_lt (by omega)
 have h2 : (BitVec.ofInt 32 (b : Int)).toNat = b := by
  rw [BitVec.ofInt_natCast, BitVec.toNat_ofNat]; exact Nat.mod_eq_of_lt (by omega)
 show IntKind.u32.wrap ((BitVec.ofInt 32 (a : Int) &&& BitVec.ofInt 32 (b : Int)).toNat : Int) = _
 rw [BitVec.toNat_and, h1, h2, u32w (by omega) (by omega)]

def polyN : Nat := 3988292384
def stepN (n : Nat) : Nat := (n / 2) ^^^ (if n % 2 = 1 then polyN else 0)
def stepsN : Nat → Nat → Nat
 | 0, n => n
 | k + 1, n => stepN (stepsN k n)
def byteN (n b : Nat) : Nat := stepsN 8 (n ^^^ b)
def moreN (n : Nat) (s : List UInt8) : Nat := s.foldl (fun n b => byteN n b.toNat) n
def ofN (s : List UInt8) : Nat := moreN 4294967295 s ^^^ 4294967295
def le4 (n : Nat) : List UInt8 := [UInt8.ofNat n, UInt8.ofNat (n / 256), UInt8.ofNat (n / 65536), UInt8.ofNat (n / 16777216)]
def sealN (s : List UInt8) : List UInt8 := s ++ le4 (ofN s)

theorem stepN_lt {n : Nat} (h : n < 4294967296) : stepN n < 4294967296 := by
 unfold stepN polyN
 have : (n / 2) ^^^ (if n % 2 = 1 then 3988292384 else 0) < 2 ^ 32 := Nat.xor_lt_two_pow (by omega) (by split <;> omega)
 simpa using this
theorem stepsN_lt {n : Nat} (h : n < 4294967296) : ∀ k, stepsN k n < 4294967296
 | 0 => h
 | k + 1 => stepN_lt (stepsN_lt h k)
theorem byteN_lt {n b : Nat} (h : n < 4294967296) (hb : b < 256) : byteN n b < 4294967296 := by
 refine stepsN_lt ?_ 8
 have : n ^^^ b < 2 ^ 32 := Nat.xor_lt_two_pow (by omega) (by omega)
 simpa using this
theorem moreN_lt : ∀ (s : List UInt8) {n : Nat}, n < 4294967296 → moreN n s < 4294967296
 | [], n, h => h
 | b :: s, n, h => moreN_lt s (n := byteN n b.toNat) (byteN_lt h b.toNat_lt)
theorem ofN_lt (s : List UInt8) : ofN s < 4294967296 := by
 have : ofN s < 2 ^ 32 := Nat.xor_lt_two_pow (by simpa using moreN_lt s (n := 4294967295) (by omega)) (by omega)
 simpa using this
theorem moreN_snoc (n : Nat) (s : List UInt8) (b : UInt8) : moreN n (s ++ [b]) = byteN (moreN n s) b.toNat := by simp [moreN, List.foldl_append]
theorem moreN_append (n : Nat) (s t : List UInt8) : moreN n (s ++ t) = moreN (moreN n s) t := by simp [moreN, List.foldl_append]
theorem sealN_len (s : List UInt8) : (sealN s).length = s.length + 4 := by simp [sealN, le4]

theorem u8_wrap (n : Nat) : u8 (IntKind.wrap .u8 (n : Int)) = UInt8.ofNat n := by
 have e : IntKind.wrap .u8 (n : Int) = ((n % 256 : Nat) : Int) := by
  simp [IntKind.wrap, IntKind.bits, IntKind.signed]
 rw [e]
 unfold u8
 rw [Int.toNat_natCast]
 apply UInt8.toNat_inj.1
 simp
theorem u8_wrap_ok (n : Int) : IsU8 (IntKind.wrap .u8 n) := by
 simp [IntKind.wrap, IntKind.bits, IntKind.signed]; omega

/-! ### The program's -/
theorem stepGo (n : Nat) (h : n < 4294967296) :
  Go.bits .xor .u32 ((n : Int) / 2 ^ min (Int.toNat 1) (IntKind.bits .u32)) (Go.bits .and .u32 3988292384 (IntKind.wrap .u32 (0 - (Go.bits .and .u32 (n : Int) 1)))) = ((stepN n : Nat) : Int) := by
 have h1 : Go.bits .and .u32 (n : Int) 1 = ((n % 2 : Nat) : Int) := by
  have := u32_and n 1 h (by omega)
  rw [Nat.and_one_is_mod] at this
  exact this
 have hd : ((n : Int) / 2 ^ min (Int.toNat 1) (IntKind.bits .u32)) = ((n / 2 : Nat) : Int) := by
  have : ((2 : Int) ^ min (Int.toNat 1) (IntKind.bits .u32)) = 2 := rfl
  rw [this]; omega
 rw [h1, hd]
 unfold stepN polyN
 rcases Nat.mod_two_eq_zero_or_one n with h2 | h2
 ·rw [h2, if_neg (by omega)]
  have : IntKind.wrap .u32 (0 - ((0 : Nat) : Int)) = ((0 : Nat) : Int) := rfl
  rw [this]
  have h3 := u32_and 3988292384 0 (by omega) (by omega)
  rw [show (3988292384 : Int) = ((3988292384 : Nat) : Int) from rfl, h3, Nat.and_zero]
  exact u32_xor (n / 2) 0 (by omega) (by omega)
 ·rw [h2, if_pos rfl]
  have : IntKind.wrap .u32 (0 - ((1 : Nat) : Int)) = ((4294967295 : Nat) : Int) := rfl
  rw [this]
  have h3 := u32_and 3988292384 4294967295 (by omega) (by omega)
  rw [show (3988292384 : Int) = ((3988292384 : Nat) : Int) from rfl, h3]
  have h4 : 3988292384 &&& 4294967295 = 3988292384 := by decide
  rw [h4]
  exact u32_xor (n / 2) 3988292384 (by omega) (by omega)

theorem xor_byte {n b : Nat} (h : n < 4294967296) (hb : b < 256) : n ^^^ b < 4294967296 := by
 have : n ^^^ b < 2 ^ 32 := Nat.xor_lt_two_pow (by omega) (by omega)
 simpa using this

theorem cByte_eq (n b : Nat) (h : n < 4294967296) (hb : b < 256) : crc.Byte (n : Int) (b : Int) = some ((byteN n b : Nat) : Int) := by
 unfold crc.Byte
 rw [u32w (n := (b : Int)) (by omega) (by omega), u32_xor n b h (by omega)]
 have hx := xor_byte h hb
 have : crc.Byte.loop0 ⟨((n ^^^ b : Nat) : Int), 0⟩ = some ((byteN n b : Nat) : Int) := by
  unfold crc.Byte.loop0
  refine whileO_knownE _ (fun i => (⟨((stepsN i (n ^^^ b) : Nat) : Int), (i : Int)⟩ : crc.Byte.S0)) 8 (fun i hi => ?_) ?_ rfl
  ·unfold crc.Byte.body0
   simp only
   rw [if_pos (by omega), stepGo _ (stepsN_lt hx i), i64w (by omega) (by omega)]
   rfl
  ·unfold crc.Byte.body0
   simp only
   rw [if_neg (by omega)]
   rfl
 rw [this]
 rfl

theorem rByte_eq (n b : Nat) (h : n < 4294967296) (hb : b < 256) : mewsref14.Byte (n : Int) (b : Int) = some ((byteN n b : Nat) : Int) := by
 unfold mewsref14.Byte
 rw [u32w (n := (b : Int)) (by omega) (by omega), u32_xor n b h (by omega)]
 have hx := xor_byte h hb
 have : mewsref14.Byte.loop0 ⟨((n ^^^ b : Nat) : Int), 0⟩ = some ((byteN n b : Nat) : Int) := by
  unfold mewsref14.Byte.loop0
  refine whileO_knownE _ (fun i => (⟨((stepsN i (n ^^^ b) : Nat) : Int), (i : Int)⟩ : mewsref14.Byte.S0)) 8 (fun i hi => ?_) ?_ rfl
  ·unfold mewsref14.Byte.body0
   simp only
   have hlt := stepsN_lt hx i
   generalize hm : stepsN i (n ^^^ b) = m at hlt
   have ht : (m : Int).tdiv 2 = ((m / 2 : Nat) : Int) := rfl
   have hmd : (m : Int).tmod 2 = ((m % 2 : Nat) : Int) := rfl
   rw [if_pos (by omega), i64w (by omega) (by omega), ht, hmd, u32w (by omega) (by omega)]
   have hs : stepsN (i + 1) (n ^^^ b) = stepN m := by rw [← hm]; rfl
   rw [hs]
   unfold stepN polyN letO
   rcases Nat.mod_two_eq_zero_or_one m with h2 | h2
   ·rw [h2, if_neg (by omega), if_neg (by omega), Nat.xor_zero]; rfl
   ·rw [h2, if_pos rfl, if_pos (by rfl)]
    have := u32_xor (m / 2) 3988292384 (by omega) (by omega)
    rw [show (3988292384 : Int) = ((3988292384 : Nat) : Int) from rfl, this]; rfl
  ·unfold mewsref14.Byte.body0
   simp only
   rw [if_neg (by omega)]
   rfl
 rw [this]
 rfl

theorem cMore_eq (n : Nat) (s : List UInt8) (h : n < 4294967296) (hs : s.length ≤ 1000000000) : crc.More (n : Int) s = some ((moreN n s : Nat) : Int) := by
 unfold crc.More
 have : crc.More.loop0 s ⟨(n : Int), 0⟩ = some ((moreN n s : Nat) : Int) := by
  unfold crc.More.loop0
  refine whileO_knownE _ (fun i => (⟨((moreN n (s.take i) : Nat) : Int), (i : Int)⟩ : crc.More.S0)) s.length (fun i hi => ?_) ?_ (by simp [moreN])
  ·unfold crc.More.body0
   simp only
   rw [if_pos (by omega), need_eq ⟨by omega, by omega⟩, bix_get' hi, cByte_eq _ _ (moreN_lt _ h) (UInt8.toNat_lt _)]
   simp only [Option.bind_some]
   rw [i64w (by omega) (by omega), List.take_add_one, List.getElem?_eq_getElem hi]
   simp only [Option.toList_some]
   rw [moreN_snoc]; rfl
  ·unfold crc.More.body0
   simp only
   rw [if_neg (by omega), List.take_length]
 rw [this]
 rfl

theorem rMore_eq (n : Nat) (s : List UInt8) (h : n < 4294967296) (hs : s.length ≤ 1000000000) : mewsref14.More (n : Int) s = some ((moreN n s : Nat) : Int) := by
 unfold mewsref14.More
 have : mewsref14.More.loop0 s ⟨(n : Int), 0⟩ = some ((moreN n s : Nat) : Int) := by
  unfold mewsref14.More.loop0
  refine whileO_knownE _ (fun i => (⟨((moreN n (s.take i) : Nat) : Int), (i : Int)⟩ : mewsref14.More.S0)) s.length (fun i hi => ?_) ?_ (by simp [moreN])
  ·unfold mewsref14.More.body0
   simp only
   rw [if_pos (by omega), need_eq ⟨by omega, by omega⟩, bix_get' hi, rByte_eq _ _ (moreN_lt _ h) (UInt8.toNat_lt _)]
   simp only [Option.bind_some]
   rw [i64w (by omega) (by omega), List.take_add_one, List.getElem?_eq_getElem hi]
   simp only [Option.toList_some]
   rw [moreN_snoc]; rfl
  ·unfold mewsref14.More.body0
   simp only
   rw [if_neg (by omega), List.take_length]
 rw [this]
 rfl

theorem cSeal_eq (s : List UInt8) (hs : s.length ≤ 1000000000) : crc.Seal s = some (sealN s) := by
 unfold crc.Seal crc.Of
 have hm := moreN_lt s (n := 4294967295) (by omega)
 have : crc.Of.loop0 [s] ⟨4294967295, 0⟩ = some ((moreN 4294967295 s : Nat) : Int) := by
  unfold crc.Of.loop0
  refine whileO_knownE _ (fun i => (⟨((if i = 0 then 4294967295 else moreN 4294967295 s : Nat) : Int), (i : Int)⟩ : crc.Of.S0)) 1 (fun i hi => ?_) ?_ rfl
  ·obtain rfl : i = 0 := by omega
   unfold crc.Of.body0
   simp only
   rw [if_pos (by simp), need_eq ⟨by omega, by simp⟩]
   have := cMore_eq 4294967295 s (by omega) hs
   rw [show ix [s] ((0 : Nat) : Int) = s from rfl]
   simp only [if_true]
   rw [this]
   rfl
  ·unfold crc.Of.body0
   simp
 rw [this]
 simp only [Option.bind_some]
 have hx : Go.bits .xor .u32 (if IntKind.signed .u32 then -1 else IntKind.max .u32) ((moreN 4294967295 s : Nat) : Int) = ((ofN s : Nat) : Int) := by
  have e : (if IntKind.signed .u32 then -1 else IntKind.max .u32) = ((4294967295 : Nat) : Int) := rfl
  rw [e, u32_xor _ _ (by omega) hm, Nat.xor_comm]; rfl
 rw [hx]
 have e8 : ((ofN s : Nat) : Int) / 2 ^ min (Int.toNat 8) (IntKind.bits .u32) = ((ofN s / 256 : Nat) : Int) := by
  have : ((2 : Int) ^ min (Int.toNat 8) (IntKind.bits .u32)) = 256 := rfl
  rw [this]; omega
 have e16 : ((ofN s : Nat) : Int) / 2 ^ min (Int.toNat 16) (IntKind.bits .u32) = ((ofN s / 65536 : Nat) : Int) := by
  have : ((2 : Int) ^ min (Int.toNat 16) (IntKind.bits .u32)) = 65536 := rfl
  rw [this]; omega
 have e24 : ((ofN s : Nat) : Int) / 2 ^ min (Int.toNat 24) (IntKind.bits .u32) = ((ofN s / 16777216 : Nat) : Int) := by
  have : ((2 : Int) ^ min (Int.toNat 24) (IntKind.bits .u32)) = 16777216 := rfl
  rw [this]; omega
 rw [e8, e16, e24, need_eq (u8_wrap_ok _), need_eq (u8_wrap_ok _), need_eq (u8_wrap_ok _), need_eq (u8_wrap_ok _), u8_wrap, u8_wrap, u8_wrap, u8_wrap, need_eq (by simp; omega)]
 rfl

theorem rSeal_eq (s : List UInt8) (hs : s.length ≤ 1000000000) : mewsref14.Seal s = some (sealN s) := by
 unfold mewsref14.Seal mewsref14.Of
 have hm := moreN_lt s (n := 4294967295) (by omega)
 rw [show (4294967295 : Int) = ((4294967295 : Nat) : Int) from rfl, rMore_eq 4294967295 s (by omega) hs]
 simp only [Option.bind_some]
 rw [u32_xor _ _ hm (by omega)]
 have hof := ofN_lt s
 rw [show moreN 4294967295 s ^^^ 4294967295 = ofN s from rfl]
 have e8 : IntKind.wrap .u32 (((ofN s : Nat) : Int).tdiv 256) = ((ofN s / 256 : Nat) : Int) := u32w (by show (0 : Int) ≤ ((ofN s / 256 : Nat) : Int); omega) (by show ((ofN s / 256 : Nat) : Int) < _; omega)
 have e16 : IntKind.wrap .u32 (((ofN s : Nat) : Int).tdiv 65536) = ((ofN s / 65536 : Nat) : Int) := u32w (by show (0 : Int) ≤ ((ofN s / 65536 : Nat) : Int); omega) (by show ((ofN s / 65536 : Nat) : Int) < _; omega)
 have e24 : IntKind.wrap .u32 (((ofN s : Nat) : Int).tdiv 16777216) = ((ofN s / 16777216 : Nat) : Int) := u32w (by show (0 : Int) ≤ ((ofN s / 16777216 : Nat) : Int); omega) (by show ((ofN s / 16777216 : Nat) : Int) < _; omega)
 rw [e8, e16, e24, need_eq (u8_wrap_ok _), need_eq (u8_wrap_ok _), need_eq (u8_wrap_ok _), need_eq (u8_wrap_ok _), u8_wrap, u8_wrap, u8_wrap, u8_wrap, need_eq (by simp; omega)]
 rfl

theorem cFits_eq (s : List UInt8) (hs : s.length ≤ 1000000000) : crc.Fits s = some (decide (4 ≤ s.length ∧ sealN (s.take (s.length - 4)) = s)) := by
 unfold crc.Fits
 by_cases h4 : 4 ≤ s.length
 ·have e : (s.length : Int) - 4 = ((s.length - 4 : Nat) : Int) := by omega
  rw [if_pos (by omega), e, i64w (by omega) (by omega), need_eq ⟨by omega, by omega, by omega⟩, sub_zero, Int.toNat_natCast, cSeal_eq _ (by simp; omega)]
  simp [h4]
 ·rw [if_neg (by omega)]
  simp [h4]

end Go.Pu
