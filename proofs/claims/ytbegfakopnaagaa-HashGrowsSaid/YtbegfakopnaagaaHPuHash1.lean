import Derived.Test.YtbegfakopnaagaaHP
import Derived.Laws.BitsLemmas
namespace Go.Pu
open Go.Lift

theorem u64_wrap {n : Int} (h0 : 0 ≤ n) (h1 : n < 18446744073709551616) : IntKind.wrap .u64 n = n := by
  simp [IntKind.wrap, IntKind.bits, IntKind.signed]; omega
theorem u64_wrap_nat (n : Nat) : IntKind.wrap .u64 (n : Int) = ((n % 2 ^ 64 : Nat) : Int) := by
  simp [IntKind.wrap, IntKind.bits, IntKind.signed]
theorem i64_wrap {n : Int} (h0 : -9223372036854775808 ≤ n) (h1 : n < 9223372036854775808) : IntKind.wrap .i64 n = n := by
  rw [IntKind.wrap_i64]; omega

theorem u64_and (a b : Nat) (ha : a < 2 ^ 64) (hb : b < 2 ^ 64) : Go.bits .and .u64 (a : Int) (b : Int) = ((a &&& b : Nat) : Int) :=
  (bits_nat .u64 64 (by decide) (fun n h0 h1 => u64_wrap h0 (by simpa using h1)) a b ha hb).1
theorem u64_or (a b : Nat) (ha : a < 2 ^ 64) (hb : b < 2 ^ 64) : Go.bits .or .u64 (a : Int) (b : Int) = ((a ||| b : Nat) : Int) :=
  (bits_nat .u64 64 (by decide) (fun n h0 h1 => u64_wrap h0 (by simpa using h1)) a b ha hb).2

/-! ### The turn of 64 bits -/
def stg (s m x : Nat) : Nat := ((x >>> s) &&& m) ||| ((x &&& m) <<< s % 2 ^ 64)

theorem stg_lt {s m x : Nat} (hm : m < 2 ^ 64) : stg s m x < 2 ^ 64 :=
  Nat.or_lt_two_pow (Nat.and_lt_two_pow _ hm) (Nat.mod_lt _ (by decide))

def chk (s m : Nat) : Bool := (List.range 64).all fun i =>
  if (i ^^^ s) < i then decide ((i ^^^ s) + s = i) && !m.testBit i && m.testBit (i - s) else decide (i + s = (i ^^^ s)) && m.testBit i && (decide (i < s) || !m.testBit (i - s))

/-- One stage: bits change places by their number's bit s. -/
theorem stg_bit {s m x : Nat} (hc : chk s m = true) {i : Nat} (hi : i < 64) : (stg s m x).testBit i = x.testBit (i ^^^ s) := by
  have h := List.all_eq_true.1 hc i (List.mem_range.2 hi)
  unfold stg
  rw [Nat.testBit_or, Nat.testBit_and, Nat.testBit_shiftRight, Nat.testBit_mod_two_pow, Nat.testBit_shiftLeft, Nat.testBit_and]
  by_cases hlt : (i ^^^ s) < i
  · rw [if_pos hlt] at h
    simp only [Bool.and_eq_true, decide_eq_true_eq, Bool.not_eq_true'] at h
    obtain ⟨⟨h1, h2⟩, h3⟩ := h
    have e : i - s = (i ^^^ s) := by omega
    rw [h2, h3, e]
    simp [hi, show s ≤ i by omega]
  · rw [if_neg hlt] at h
    simp only [Bool.and_eq_true, decide_eq_true_eq, Bool.not_eq_true', Bool.or_eq_true] at h
    obtain ⟨⟨h1, h2⟩, h3⟩ := h
    rw [h2, Nat.add_comm, h1]
    rcases h3 with h3 | h3
    · simp [show ¬ s ≤ i by omega]
    · rw [h3]; simp

def R64 (x : Nat) : Nat :=
  let a := stg 1 6148914691236517205 x
  let b := stg 2 3689348814741910323 a
  let c := stg 4 1085102592571150095 b
  let d := stg 8 71777214294589695 c
  let e := stg 16 281470681808895 d
  ((e >>> 32) ||| (e <<< 32 % 2 ^ 64))

theorem R64_bit {x : Nat} (hx : x < 2 ^ 64) {i : Nat} (hi : i < 64) : (R64 x).testBit i = x.testBit (63 - i) := by
  have last : ∀ e : Nat, e < 2 ^ 64 → ((e >>> 32) ||| (e <<< 32 % 2 ^ 64)).testBit i = e.testBit (i ^^^ 32) := fun e he => by
    have : ((e >>> 32) ||| (e <<< 32 % 2 ^ 64)) = stg 32 4294967295 e := by
      unfold stg
      have h1 : (e >>> 32) &&& 4294967295 = e >>> 32 := by
        rw [show (4294967295 : Nat) = 2 ^ 32 - 1 by decide, Nat.and_two_pow_sub_one_eq_mod, Nat.mod_eq_of_lt]
        rw [Nat.shiftRight_eq_div_pow]; omega
      have h2 : (e &&& 4294967295) <<< 32 % 2 ^ 64 = e <<< 32 % 2 ^ 64 := by
        rw [show (4294967295 : Nat) = 2 ^ 32 - 1 by decide, Nat.and_two_pow_sub_one_eq_mod, Nat.shiftLeft_eq, Nat.shiftLeft_eq]
        omega
      rw [h1, h2]
    rw [this]
    exact stg_bit (by decide +kernel) hi
  have hx32 : ∀ s, s < 64 → ∀ j, j < 64 → (j ^^^ s) < 64 := fun s hs j hj => Nat.xor_lt_two_pow (n := 6) hj hs
  unfold R64
  simp only
  rw [last _ (stg_lt (by decide))]
  rw [stg_bit (by decide +kernel) (hx32 32 (by decide) i hi), stg_bit (by decide +kernel) (hx32 _ (by decide) _ (hx32 32 (by decide) i hi)),
    stg_bit (by decide +kernel) (hx32 _ (by decide) _ (hx32 _ (by decide) _ (hx32 32 (by decide) i hi))), stg_bit (by decide +kernel) (hx32 _ (by decide) _ (hx32 _ (by decide) _ (hx32 _ (by decide) _ (hx32 32 (by decide) i hi)))),
    stg_bit (by decide +kernel) (hx32 _ (by decide) _ (hx32 _ (by decide) _ (hx32 _ (by decide) _ (hx32 _ (by decide) _ (hx32 32 (by decide) i hi)))))]
  congr 1
  have : ∀ i, i < 64 → (((((i ^^^ 32) ^^^ 16) ^^^ 8) ^^^ 4) ^^^ 2) ^^^ 1 = 63 - i := by decide +kernel
  exact this i hi

theorem R64_lt {x : Nat} (hx : x < 2 ^ 64) : R64 x < 2 ^ 64 := by
  unfold R64
  simp only
  refine Nat.or_lt_two_pow ?_ (Nat.mod_lt _ (by decide))
  rw [Nat.shiftRight_eq_div_pow]
  have := @stg_lt 16 281470681808895 (stg 8 71777214294589695 (stg 4 1085102592571150095 (stg 2 3689348814741910323 (stg 1 6148914691236517205 x)))) (by decide)
  omega

/-- A stage, as Go has it. -/
theorem go_stg (s m x : Nat) (sI mI : Int) (es : sI = s) (em : mI = m) (hs : s ≤ 63) (hx : x < 2 ^ 64) (hm : m < 2 ^ 64) :
    Go.bits .or .u64 (Go.bits .and .u64 ((x : Int) / 2 ^ min (Int.toNat sI) (IntKind.bits .u64)) mI) (IntKind.wrap .u64 ((Go.bits .and .u64 x mI) * 2 ^ min (Int.toNat sI) (IntKind.bits .u64))) = ((stg s m x : Nat) : Int) := by
  subst es em
  have hmin : min (Int.toNat s) (IntKind.bits .u64) = s := by simp [IntKind.bits]; omega
  rw [hmin]
  have e1 : (x : Int) / 2 ^ s = ((x >>> s : Nat) : Int) := by rw [Nat.shiftRight_eq_div_pow]; simp
  have h1 : x >>> s < 2 ^ 64 := Nat.lt_of_le_of_lt (by rw [Nat.shiftRight_eq_div_pow]; exact Nat.div_le_self _ _) hx
  rw [e1, u64_and _ _ h1 hm, u64_and _ _ hx hm]
  have e2 : ((x &&& m : Nat) : Int) * 2 ^ s = (((x &&& m) <<< s : Nat) : Int) := by rw [Nat.shiftLeft_eq]; simp
  rw [e2, u64_wrap_nat, u64_or _ _ (Nat.and_lt_two_pow _ hm) (Nat.mod_lt _ (by decide))]
  rfl

theorem go_last (x : Nat) (hx : x < 2 ^ 64) : Go.bits .or .u64 ((x : Int) / 2 ^ min (Int.toNat 32) (IntKind.bits .u64)) (IntKind.wrap .u64 ((x : Int) * 2 ^ min (Int.toNat 32) (IntKind.bits .u64))) = (((x >>> 32) ||| (x <<< 32 % 2 ^ 64) : Nat) : Int) := by
  have hmin : min (Int.toNat 32) (IntKind.bits .u64) = 32 := by decide
  rw [hmin]
  have e1 : (x : Int) / (2 : Int) ^ 32 = ((x >>> 32 : Nat) : Int) := by rw [Nat.shiftRight_eq_div_pow]; omega
  have h1 : x >>> 32 < 2 ^ 64 := Nat.lt_of_le_of_lt (by rw [Nat.shiftRight_eq_div_pow]; exact Nat.div_le_self _ _) hx
  have e2 : (x : Int) * (2 : Int) ^ 32 = ((x <<< 32 : Nat) : Int) := by rw [Nat.shiftLeft_eq]; omega
  rw [e1, e2, u64_wrap_nat, u64_or _ _ h1 (Nat.mod_lt _ (by decide))]

theorem reverse64 (x : Nat) (hx : x < 2 ^ 64) : bits.Reverse64 x = some (R64 x : Int) := by
  unfold bits.Reverse64 bits.ReverseBytes64
  simp only [letO, Option.bind_some]
  rw [go_stg 1 6148914691236517205 x 1 6148914691236517205 rfl rfl (by decide) hx (by decide), go_stg 2 3689348814741910323 _ 2 3689348814741910323 rfl rfl (by decide) (stg_lt (by decide)) (by decide),
    go_stg 4 1085102592571150095 _ 4 1085102592571150095 rfl rfl (by decide) (stg_lt (by decide)) (by decide), go_stg 8 71777214294589695 _ 8 71777214294589695 rfl rfl (by decide) (stg_lt (by decide)) (by decide),
    go_stg 16 281470681808895 _ 16 281470681808895 rfl rfl (by decide) (stg_lt (by decide)) (by decide), go_last _ (stg_lt (by decide))]
  rfl

end Go.Pu
