/- Numbers of texts, and cursors: what chapter 06 shows of them, without its laws. -/
import Derived.Test.YtahccieomaopeaaSCP
import Derived.Test.YtahccieomaopeaaSCPuBase
set_option maxHeartbeats 0
set_option maxRecDepth 100000
namespace Go.Pu
open Go.Lift

theorem u64_wrap {n : Int} (h0 : 0 ≤ n) (h1 : n < 18446744073709551616) : IntKind.wrap .u64 n = n := by
 simp [IntKind.wrap, IntKind.bits, IntKind.signed]; omega

theorem u64_wrap_nat (n : Nat) : IntKind.wrap .u64 (n : Int) = ((n % 2 ^ 64 : Nat) : Int) := by
 simp [IntKind.wrap, IntKind.bits, IntKind.signed]

theorem i64_wrap {n : Int} (h0 : -9223372036854775808 ≤ n) (h1 : n < 9223372036854775808) : IntKind.wrap .i64 n = n := by
 rw [IntKind.wrap_i64]; omega

theorem u64_and (a b : Nat) (ha : a < 2 ^ 64) (hb : b < 2 ^ 64) : Go.bits .and .u64 (a : Int) (b : Int) = ((a &&& b : Nat) : Int) :=
 (bits_nat .u64 64 (by decide) (fun n h0 h1 => u64_wrap h0 (by simpa using h1)) a b ha hb).1

theorem u64_or (a b : Nat) (ha : a < 2 ^ 64) (hb : b < 2 ^ 64) : Go.bits .or .u64 (a : Int) (b : Int) = ((a ||| b : Nat) : Int) :=
 (bits_nat .u64 64 (by decide) (fun n h0 h1 => u64_wrap h0 (by simpa using h1)) a b ha hb).2

/-! ### The turn of 64 bits -/

def stg (s m x : Nat) : Nat := ((x >>> s) &&& m) ||| ((x &&& m) <<< s % 2 ^ 64)

theorem stg_lt {s m x : Nat} (hm : m < 2 ^ 64) : stg s m x < 2 ^ 64 :=
 Nat.or_lt_two_pow (Nat.and_lt_two_pow _ hm) (Nat.mod_lt _ (by decide))

def chk (s m : Nat) : Bool := (List.range 64).all fun i =>
 if (i ^^^ s) < i then decide ((i ^^^ s) + s = i) && !m.testBit i && m.testBit (i - s) else decide (i + s = (i ^^^ s)) && m.testBit i && (decide (i < s) || !m.testBit (i - s))

/-- One stage: bits change places by their number's bit s. -/

theorem stg_bit {s m x : Nat} (hc : chk s m = true) {i : Nat} (hi : i < 64) : (stg s m x).testBit i = x.testBit (i ^^^ s) := by
 have h := List.all_eq_true.1 hc i (List.mem_range.2 hi)
 unfold stg
 rw [Nat.testBit_or, Nat.testBit_and, Nat.testBit_shiftRight, Nat.testBit_mod_two_pow, Nat.testBit_shiftLeft, Nat.testBit_and]
 by_cases hlt : (i ^^^ s) < i
 ·rw [if_pos hlt] at h
  simp only [Bool.and_eq_true, decide_eq_true_eq, Bool.not_eq_true'] at h
  obtain ⟨⟨h1, h2⟩, h3⟩ := h
  have e : i - s = (i ^^^ s) := by omega
  rw [h2, h3, e]
  simp [hi, show s ≤ i by omega]
 ·rw [if_neg hlt] at h
  simp only [Bool.and_eq_true, decide_eq_true_eq, Bool.not_eq_true', Bool.or_eq_true] at h
  obtain ⟨⟨h1, h2⟩, h3⟩ := h
  rw [h2, Nat.add_comm, h1]
  rcases h3 with h3 | h3
  ·simp [show ¬ s ≤ i by omega]
  ·rw [h3]; simp

def R64 (x : Nat) : Nat :=
 let a := stg 1 6148914691236517205 x
 let b := stg 2 3689348814741910323 a
 let c := stg 4 1085102592571150095 b
 let d := stg 8 71777214294589695 c
 let e := stg 16 281470681808895 d
 ((e >>> 32) ||| (e <<< 32 % 2 ^ 64))

theorem R64_bit {x : Nat} (hx : x < 2 ^ 64) {i : Nat} (hi : i < 64) : (R64 x).testBit i = x.testBit (63 - i) := by
 have last : ∀ e : Nat, e < 2 ^ 64 → ((e >>> 32) ||| (e <<< 32 % 2 ^ 64)).testBit i = e.testBit (i ^^^ 32) := fun e he => by
  have : ((e >>> 32) ||| (e <<< 32 % 2 ^ 64)) = stg 32 4294967295 e := by
   unfold stg
   have h1 : (e >>> 32) &&& 4294967295 = e >>> 32 := by
    rw [show (4294967295 : Nat) = 2 ^ 32 - 1 by decide, Nat.and_two_pow_sub_one_eq_mod, Nat.mod_eq_of_lt]
    rw [Nat.shiftRight_eq_div_pow]; omega
   have h2 : (e &&& 4294967295) <<< 32 % 2 ^ 64 = e <<< 32 % 2 ^ 64 := by
    rw [show (4294967295 : Nat) = 2 ^ 32 - 1 by decide, Nat.and_two_pow_sub_one_eq_mod, Nat.shiftLeft_eq, Nat.shiftLeft_eq]
    omega
   rw [h1, h2]
  rw [this]
  exact stg_bit (by decide +kernel) hi
 have hx32 : ∀ s, s < 64 → ∀ j, j < 64 → (j ^^^ s) < 64 := fun s hs j hj => Nat.xor_lt_two_pow (n := 6) hj hs
 unfold R64
 simp only
 rw [last _ (stg_lt (by decide))]
 rw [stg_bit (by decide +kernel) (hx32 32 (by decide) i hi), stg_bit (by decide +kernel) (hx32 _ (by decide) _ (hx32 32 (by decide) i hi)),
  stg_bit (by decide +kernel) (hx32 _ (by decide) _ (hx32 _ (by decide) _ (hx32 32 (by decide) i hi))), stg_bit (by decide +kernel) (hx32 _ (by decide) _ (hx32 _ (by decide) _ (hx32 _ (by decide) _ (hx32 32 (by decide) i hi)))),
  stg_bit (by decide +kernel) (hx32 _ (by decide) _ (hx32 _ (by decide) _ (hx32 _ (by decide) _ (hx32 _ (by decide) _ (hx32 32 (by decide) i hi)))))]
 congr 1
 have : ∀ i, i < 64 → (((((i ^^^ 32) ^^^ 16) ^^^ 8) ^^^ 4) ^^^ 2) ^^^ 1 = 63 - i := by decide +kernel
 exact this i hi

theorem R64_lt {x : Nat} (hx : x < 2 ^ 64) : R64 x < 2 ^ 64 := by
 unfold R64
 simp only
 refine Nat.or_lt_two_pow ?_ (Nat.mod_lt _ (by decide))
 rw [Nat.shiftRight_eq_div_pow]
 have := @stg_lt 16 281470681808895 (stg 8 71777214294589695 (stg 4 1085102592571150095 (stg 2 3689348814741910323 (stg 1 6148914691236517205 x)))) (by decide)
 omega

/-- A stage, as Go has it. -/

theorem go_stg (s m x : Nat) (sI mI : Int) (es : sI = s) (em : mI = m) (hs : s ≤ 63) (hx : x < 2 ^ 64) (hm : m < 2 ^ 64) :
  Go.bits .or .u64 (Go.bits .and .u64 ((x : Int) / 2 ^ min (Int.toNat sI) (IntKind.bits .u64)) mI) (IntKind.wrap .u64 ((Go.bits .and .u64 x mI) * 2 ^ min (Int.toNat sI) (IntKind.bits .u64))) = ((stg s m x : Nat) : Int) := by
 subst es em
 have hmin : min (Int.toNat s) (IntKind.bits .u64) = s := by simp [IntKind.bits]; omega
 rw [hmin]
 have e1 : (x : Int) / 2 ^ s = ((x >>> s : Nat) : Int) := by rw [Nat.shiftRight_eq_div_pow]; simp
 have h1 : x >>> s < 2 ^ 64 := Nat.lt_of_le_of_lt (by rw [Nat.shiftRight_eq_div_pow]; exact Nat.div_le_self _ _) hx
 rw [e1, u64_and _ _ h1 hm, u64_and _ _ hx hm]
 have e2 : ((x &&& m : Nat) : Int) * 2 ^ s = (((x &&& m) <<< s : Nat) : Int) := by rw [Nat.shiftLeft_eq]; simp
 rw [e2, u64_wrap_nat, u64_or _ _ (Nat.and_lt_two_pow _ hm) (Nat.mod_lt _ (by decide))]
 rfl

theorem go_last (x : Nat) (hx : x < 2 ^ 64) : Go.bits .or .u64 ((x : Int) / 2 ^ min (Int.toNat 32) (IntKind.bits .u64)) (IntKind.wrap .u64 ((x : Int) * 2 ^ min (Int.toNat 32) (IntKind.bits .u64))) = (((x >>> 32) ||| (x <<< 32 % 2 ^ 64) : Nat) : Int) := by
 have hmin : min (Int.toNat 32) (IntKind.bits .u64) = 32 := by decide
 rw [hmin]
 have e1 : (x : Int) / (2 : Int) ^ 32 = ((x >>> 32 : Nat) : Int) := by rw [Nat.shiftRight_eq_div_pow]; omega
 have h1 : x >>> 32 < 2 ^ 64 := Nat.lt_of_le_of_lt (by rw [Nat.shiftRight_eq_div_pow]; exact Nat.div_le_self _ _) hx
 have e2 : (x : Int) * (2 : Int) ^ 32 = ((x <<< 32 : Nat) : Int) := by rw [Nat.shiftLeft_eq]; omega
 rw [e1, e2, u64_wrap_nat, u64_or _ _ h1 (Nat.mod_lt _ (by decide))]

theorem reverse64 (x : Nat) (hx : x < 2 ^ 64) : bits.Reverse64 x = some (R64 x : Int) := by
 unfold bits.Reverse64 bits.ReverseBytes64
 simp only [letO, Option.bind_some]
 rw [go_stg 1 6148914691236517205 x 1 6148914691236517205 rfl rfl (by decide) hx (by decide), go_stg 2 3689348814741910323 _ 2 3689348814741910323 rfl rfl (by decide) (stg_lt (by decide)) (by decide),
  go_stg 4 1085102592571150095 _ 4 1085102592571150095 rfl rfl (by decide) (stg_lt (by decide)) (by decide), go_stg 8 71777214294589695 _ 8 71777214294589695 rfl rfl (by decide) (stg_lt (by decide)) (by decide),
  go_stg 16 281470681808895 _ 16 281470681808895 rfl rfl (by decide) (stg_lt (by decide)) (by decide), go_last _ (stg_lt (by decide))]
 rfl

theorem u64n {n : Nat} (h : n < 2 ^ 64) : IntKind.wrap .u64 (n : Int) = n := by rw [u64_wrap_nat, Nat.mod_eq_of_lt h]

/-- A loop whose states are known. -/

theorem whileO_count {σ ρ : Type} {body : σ → Option (σ ⊕ ρ)} (st : Nat → σ) (n : Nat) {r : ρ} (h : ∀ i, i < n → body (st i) = some (.inl (st (i + 1)))) (he : body (st n) = some (.inr r)) : whileO body (st 0) = some r := by
 have : ∀ k, k ≤ n → whileO body (st (n - k)) = some r := by
  intro k
  induction k with
  | zero => intro _; exact whileO_end he
  | succ k ih =>
   intro hk
   refine whileO_next (h (n - (k + 1)) (by omega)) ?_
   rw [show n - (k + 1) + 1 = n - k by omega]
   exact ih (by omega)
 have := this n (Nat.le_refl _)
 rwa [Nat.sub_self] at this

/-! ### The size -/

def kz (b : Int) : Nat := (if 16 < (if b < 0 then 0 else b) then 16 else (if b < 0 then 0 else b)).toNat

theorem kz_le (b : Int) : kz b ≤ 16 := by unfold kz; split <;> split <;> omega

theorem size_eq (b : Int) : hash.size b = some (kz b : Int) := by
 unfold hash.size kz
 congr 1
 split <;> split <;> omega

def rv : Nat → Nat → Nat
 | 0, _ => 0
 | k + 1, n => 2 * rv k n + n / 2 ^ k % 2

theorem rv_lt (k n : Nat) : rv k n < 2 ^ k := by
 induction k with
 | zero => simp [rv]
 | succ k ih => simp only [rv, Nat.pow_succ]; omega

theorem rv_bit (k n i : Nat) : (rv k n).testBit i = (decide (i < k) && n.testBit (k - 1 - i)) := by
 induction k generalizing i with
 | zero => simp [rv]
 | succ k ih =>
  have hb : n / 2 ^ k % 2 < 2 := Nat.mod_lt _ (by decide)
  have h2 : n.testBit k = decide (n / 2 ^ k % 2 = 1) := by rw [Nat.testBit_eq_decide_div_mod_eq]
  cases i with
  | zero =>
   simp only [rv, Nat.testBit_zero]
   rw [show k + 1 - 1 - 0 = k by omega, h2]
   simp
  | succ i =>
   have : (rv (k + 1) n).testBit (i + 1) = (rv k n).testBit i := by
    simp only [rv]
    rw [Nat.testBit_succ]
    congr 1
    omega
   rw [this, ih, show k + 1 - 1 - (i + 1) = k - 1 - i by omega]
   simp

theorem rv_mod (k n : Nat) : rv k (n % 2 ^ k) = rv k n := by
 apply Nat.eq_of_testBit_eq
 intro i
 rw [rv_bit, rv_bit, Nat.testBit_mod_two_pow]
 by_cases h : i < k
 ·simp [h, show k - 1 - i < k by omega]
 ·simp [h]

theorem rv_rv (k n : Nat) : rv k (rv k n) = n % 2 ^ k := by
 apply Nat.eq_of_testBit_eq
 intro i
 rw [rv_bit, rv_bit, Nat.testBit_mod_two_pow]
 by_cases h : i < k
 ·simp [h, show k - 1 - i < k by omega, show k - 1 - (k - 1 - i) = i by omega]
 ·simp [h]

theorem rv_low (k a b : Nat) (hb : b < 2) : rv (k + 1) (2 * a + b) = b * 2 ^ k + rv k a := by
 induction k with
 | zero => simp only [rv]; omega
 | succ k ih =>
  rw [rv, ih, rv, Nat.pow_succ]
  have : (2 * a + b) / (2 ^ k * 2) = a / 2 ^ k := by
   rw [Nat.mul_comm (2 ^ k) 2, ← Nat.div_div_eq_div_mul]
   congr 1; omega
  rw [this]
  have : b * (2 ^ k * 2) = 2 * (b * 2 ^ k) := by rw [Nat.mul_comm (2 ^ k) 2, Nat.mul_left_comm]
  rw [this]; omega

theorem R64_rv (x k : Nat) (hk : k ≤ 16) (hk0 : 0 < k) (hx : x < 2 ^ 64) : R64 (x % 2 ^ k) / 2 ^ (64 - k) = rv k x := by
 have hx' : x % 2 ^ k < 2 ^ 64 := Nat.lt_of_le_of_lt (Nat.mod_le _ _) hx
 rw [← Nat.shiftRight_eq_div_pow]
 apply Nat.eq_of_testBit_eq
 intro i
 rw [Nat.testBit_shiftRight, rv_bit]
 by_cases h : i < k
 ·rw [R64_bit hx' (by omega), Nat.testBit_mod_two_pow]
  simp [h, show 63 - (64 - k + i) = k - 1 - i by omega, show k - 1 - i < k by omega]
 ·have : (R64 (x % 2 ^ k)).testBit (64 - k + i) = false :=
   Nat.testBit_lt_two_pow (Nat.lt_of_lt_of_le (R64_lt hx') (Nat.pow_le_pow_right (by decide) (by omega)))
  simp [this, h]

/-! ### low, Turn, Next -/

theorem two_pow_le16 {k : Nat} (hk : k ≤ 16) : 2 ^ k ≤ 65536 := Nat.le_trans (Nat.pow_le_pow_right (by decide) hk) (by decide)

theorem shl_one {k : Nat} (hk : k ≤ 16) : IntKind.wrap .u64 (1 * 2 ^ min (Int.toNat (k : Int)) (IntKind.bits .u64)) = ((2 ^ k : Nat) : Int) := by
 have h := two_pow_le16 hk
 have : min (Int.toNat (k : Int)) (IntKind.bits .u64) = k := by simp [IntKind.bits]; omega
 rw [this]
 have e : (1 : Int) * 2 ^ k = ((2 ^ k : Nat) : Int) := by simp
 rw [e]
 exact u64_wrap (Int.natCast_nonneg _) (by omega)

theorem low_eq (n : Nat) (b : Int) (hn : n < 2 ^ 64) : hash.low n b = some ((n % 2 ^ kz b : Nat) : Int) := by
 have hk := kz_le b
 have h := two_pow_le16 hk
 have h1 : 0 < 2 ^ kz b := Nat.two_pow_pos _
 unfold hash.low
 rw [size_eq]
 simp only [Option.bind_some]
 rw [need_eq (Int.natCast_nonneg _), shl_one hk]
 have e : IntKind.wrap .u64 (((2 ^ kz b : Nat) : Int) - 1) = ((2 ^ kz b - 1 : Nat) : Int) := by
  rw [show (((2 ^ kz b : Nat) : Int) - 1) = ((2 ^ kz b - 1 : Nat) : Int) by omega]
  exact u64_wrap (Int.natCast_nonneg _) (by omega)
 rw [e, u64_and _ _ hn (by omega), Nat.and_two_pow_sub_one_eq_mod]

theorem Turn_eq (n : Nat) (b : Int) (hn : n < 2 ^ 64) : hash.Turn n b = some ((rv (kz b) n : Nat) : Int) := by
 have hk := kz_le b
 unfold hash.Turn
 rw [size_eq]
 simp only [Option.bind_some]
 by_cases h0 : kz b = 0
 ·simp [h0, rv]
 ·have : ¬ ((kz b : Nat) : Int) = 0 := by omega
  have hlt : n % 2 ^ kz b < 2 ^ 64 := Nat.lt_of_le_of_lt (Nat.mod_le _ _) hn
  rw [if_neg this, low_eq n b hn]
  simp only [Option.bind_some]
  rw [reverse64 _ hlt]
  simp only [Option.bind_some]
  have e : IntKind.wrap .i64 (64 - (kz b : Int)) = ((64 - kz b : Nat) : Int) := by
   rw [i64_wrap (by omega) (by omega)]; omega
  rw [e, need_eq (Int.natCast_nonneg _)]
  have e2 : min (Int.toNat ((64 - kz b : Nat) : Int)) (IntKind.bits .u64) = 64 - kz b := by simp [IntKind.bits]
  rw [e2]
  congr 1
  have : ((R64 (n % 2 ^ kz b) : Nat) : Int) / 2 ^ (64 - kz b) = ((R64 (n % 2 ^ kz b) / 2 ^ (64 - kz b) : Nat) : Int) := by simp
  rw [this, R64_rv n _ hk (by omega) hn]

theorem tdiv_nat (a b : Nat) : (a : Int).tdiv b = ((a / b : Nat) : Int) := by simp [Int.tdiv_eq_ediv_of_nonneg]

theorem tmod_nat (a b : Nat) : (a : Int).tmod b = ((a % b : Nat) : Int) := by simp [Int.tmod_eq_emod_of_nonneg]

def nx (k n : Nat) : Nat := rv k (rv k n + 1)

theorem nx_lt (k n : Nat) : nx k n < 2 ^ k := rv_lt _ _

theorem Next_eq (n : Nat) (b : Int) (hn : n < 2 ^ 64) : hash.Next n b = some ((nx (kz b) n : Nat) : Int) := by
 have h1 := rv_lt (kz b) n
 have h2 := two_pow_le16 (kz_le b)
 unfold hash.Next
 rw [Turn_eq n b hn]
 simp only [Option.bind_some]
 rw [u64_wrap (by omega) (by omega), show ((rv (kz b) n : Nat) : Int) + 1 = ((rv (kz b) n + 1 : Nat) : Int) by omega, Turn_eq _ b (by omega)]
 rfl

theorem nx_top (k m : Nat) (hm : m < 2 ^ (k + 1)) : nx (k + 1) m = if 2 ^ k ≤ m then nx k (m - 2 ^ k) else m + 2 ^ k := by
 have er : rv (k + 1) m = 2 * rv k m + m / 2 ^ k % 2 := rfl
 unfold nx
 rw [er]
 have hk : 0 < 2 ^ k := Nat.two_pow_pos _
 rw [Nat.pow_succ] at hm
 by_cases h : 2 ^ k ≤ m
 ·have e1 : m / 2 ^ k = 1 := by
   rw [Nat.div_eq_iff hk]; omega
  have e2 : rv k m = rv k (m - 2 ^ k) := by rw [← rv_mod k m, Nat.mod_eq_sub_mod h, rv_mod]
  rw [if_pos h, e1, e2, show 2 * rv k (m - 2 ^ k) + 1 % 2 + 1 = 2 * (rv k (m - 2 ^ k) + 1) + 0 by omega, rv_low _ _ _ (by decide)]
  simp
 ·have e1 : m / 2 ^ k = 0 := Nat.div_eq_of_lt (by omega)
  rw [if_neg h, e1, show 2 * rv k m + 0 % 2 + 1 = 2 * rv k m + 1 by omega, rv_low _ _ _ (by decide), rv_rv, Nat.mod_eq_of_lt (by omega)]
  omega

theorem u64_range (n : Int) : 0 ≤ IntKind.wrap .u64 n ∧ IntKind.wrap .u64 n < 18446744073709551616 := by
 simp [IntKind.wrap, IntKind.bits, IntKind.signed]; omega

theorem xor_range (a b : Int) : 0 ≤ Go.bits .xor .u64 a b ∧ Go.bits .xor .u64 a b < 18446744073709551616 := by
 unfold Go.bits
 exact u64_range _

theorem u64_wrap_wrap (n : Int) : IntKind.wrap .u64 (IntKind.wrap .u64 n) = IntKind.wrap .u64 n := u64_wrap (u64_range n).1 (u64_range n).2

def stepO (h : Int) (c : UInt8) : Int := IntKind.wrap .u64 ((Go.bits .xor .u64 h (IntKind.wrap .u64 (c.toNat : Int))) * 1099511628211)

theorem foldl_take {α β : Type} (f : α → β → α) (a : α) (s : List β) (i : Nat) (hi : i < s.length) : (s.take (i + 1)).foldl f a = f ((s.take i).foldl f a) s[i] := by
 rw [List.take_add_one, List.getElem?_eq_getElem hi, List.foldl_append]
 rfl

theorem bix_get {s : List UInt8} {i : Nat} (hi : i < s.length) : bix s (i : Int) = (s[i].toNat : Int) := by
 simp [bix, List.getD, List.getElem?_eq_getElem hi]

theorem Of_loop (s : List UInt8) (h : Int) (hs : s.length < 9223372036854775807) : hash.Of.loop0 s ⟨h, 0⟩ = some (s.foldl stepO h) := by
 unfold hash.Of.loop0
 have := whileO_count (body := hash.Of.body0 s) (fun i => ⟨(s.take i).foldl stepO h, (i : Int)⟩) s.length (r := s.foldl stepO h) (fun i hi => ?_) ?_
 ·exact this
 ·unfold hash.Of.body0
  simp only
  rw [if_pos (by omega), need_eq ⟨by omega, by omega⟩, bix_get hi, i64_wrap (by omega) (by omega), foldl_take stepO h s i hi]
  rfl
 ·unfold hash.Of.body0
  simp

def shx (h : Int) : Int := Go.bits .xor .u64 h (h / 2 ^ min (Int.toNat 33) (IntKind.bits .u64))

def mixO (h : Int) (c : Int) : Int := IntKind.wrap .u64 (shx h * c)

def mixed (h : Int) : Int := shx (mixO (mixO h 18397679294719823053) 14181476777654086739)

theorem shx_wrap (h : Int) : IntKind.wrap .u64 (shx h * 1) = shx h := by
 rw [Int.mul_one]; exact u64_wrap (xor_range _ _).1 (xor_range _ _).2

theorem Of_mix (h : Int) : hash.Of.loop2 ⟨h, 0⟩ = some (mixed h) := by
 unfold hash.Of.loop2
 have step : ∀ (h i : Int) (c : Int), InB i 3 → ix ([18397679294719823053, 14181476777654086739, 1] : List Int) i = c → hash.Of.body2 ⟨h, i⟩ = some (.inl ⟨mixO h c, IntKind.wrap .i64 (i + 1)⟩) := by
  intro h i c hi hc
  unfold hash.Of.body2
  simp only [letO]
  rw [if_pos (by have := hi.2; omega), need_eq hi, hc]
  rfl
 refine whileO_next (step h 0 _ ⟨by decide, by decide⟩ rfl) ?_
 refine whileO_next (step _ _ _ ⟨by decide, by decide⟩ rfl) ?_
 refine whileO_next (step _ _ _ ⟨by decide, by decide⟩ rfl) ?_
 refine whileO_end ?_
 unfold hash.Of.body2
 simp only
 rw [if_neg (by decide)]
 show some (Sum.inr (IntKind.wrap .u64 (shx _ * 1))) = _
 rw [shx_wrap]
 rfl

def ofN (seed : Int) (s : List UInt8) : Int := mixed (s.foldl stepO (Go.bits .xor .u64 14695981039346656037 seed))

theorem Of_eq (seed : Int) (s : List UInt8) (hs : s.length < 9223372036854775807) : hash.Of seed s = some (ofN seed s) := by
 unfold hash.Of
 rw [Of_loop s _ hs]
 simp only [Option.bind_some]
 rw [Of_mix]
 rfl

theorem wf_u64 {n : Int} (h : (Lit.int .u64 n).wf = true) : 0 ≤ n ∧ n < 18446744073709551616 := by
 have : 0 ≤ n ∧ n ≤ 18446744073709551615 := by simpa [Lit.wf, IntKind.min, IntKind.max, IntKind.signed, IntKind.bits] using h
 omega

theorem wf_i64 {n : Int} (h : (Lit.int .i64 n).wf = true) : -9223372036854775808 ≤ n ∧ n < 9223372036854775808 := by
 have : -9223372036854775808 ≤ n ∧ n ≤ 9223372036854775807 := by simpa [Lit.wf, IntKind.min, IntKind.max, IntKind.signed, IntKind.bits] using h
 omega

theorem shx_range (h : Int) : 0 ≤ shx h ∧ shx h < 18446744073709551616 := xor_range _ _

theorem ofN_range (a : Int) (s : List UInt8) : 0 ≤ ofN a s ∧ ofN a s < 18446744073709551616 := shx_range _

theorem kz_self {b : Int} (h0 : 0 ≤ b) (h1 : b ≤ 16) : (kz b : Int) = b := by
 unfold kz; split <;> split <;> omega

end Go.Pu
