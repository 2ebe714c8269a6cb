import Derived.Test.YtlehodoiabaaaaaFQP
import Derived.Test.YtlehodoiabaaaaaFQPuBase
set_option maxHeartbeats 0
set_option maxRecDepth 100000
namespace Go.Pu
open Go.Lift

theorem u64_wrap {n : Int} (h0 : 0 ≤ n) (h1 : n < 18446744073709551616) : IntKind.wrap .u64 n = n := by
 simp [IntKind.wrap, IntKind.bits, IntKind.signed]; omega

theorem u64_wrap_nat (n : Nat) : IntKind.wrap .u64 (n : Int) = ((n % 2 ^ 64 : Nat) : Int) := by
 simp [IntKind.wrap, IntKind.bits, IntKind.signed]

theorem i64_wrap {n : Int} (h0 : -9223372036854775808 ≤ n) (h1 : n < 9223372036854775808) : IntKind.wrap .i64 n = n := by
 rw [IntKind.wrap_i64]; omega

theorem u64_and (a b : Nat) (ha : a < 2 ^ 64) (hb : b < 2 ^ 64) : Go.bits .and .u64 (a : Int) (b : Int) = ((a &&& b : Nat) : Int) :=
 (bits_nat .u64 64 (by decide) (fun n h0 h1 => u64_wrap h0 (by simpa using h1)) a b ha hb).1

theorem u64_or (a b : Nat) (ha : a < 2 ^ 64) (hb : b < 2 ^ 64) : Go.bits .or .u64 (a : Int) (b : Int) = ((a ||| b : Nat) : Int) :=
 (bits_nat .u64 64 (by decide) (fun n h0 h1 => u64_wrap h0 (by simpa using h1)) a b ha hb).2

/-! ### The turn of 64 bits -/

theorem u64n {n : Nat} (h : n < 2 ^ 64) : IntKind.wrap .u64 (n : Int) = n := by rw [u64_wrap_nat, Nat.mod_eq_of_lt h]

/-- A loop whose states are known. -/

theorem whileO_count {σ ρ : Type} {body : σ → Option (σ ⊕ ρ)} (st : Nat → σ) (n : Nat) {r : ρ} (h : ∀ i, i < n → body (st i) = some (.inl (st (i + 1)))) (he : body (st n) = some (.inr r)) : whileO body (st 0) = some r := by
 have : ∀ k, k ≤ n → whileO body (st (n - k)) = some r := by
  intro k
  induction k with
  | zero => intro _; exact whileO_end he
  | succ k ih =>
   intro hk
   refine whileO_next (h (n - (k + 1)) (by omega)) ?_
   rw [show n - (k + 1) + 1 = n - k by omega]
   exact ih (by omega)
 have := this n (Nat.le_refl _)
 rwa [Nat.sub_self] at this

/-! ### The size -/

def kz (b : Int) : Nat := (if 16 < (if b < 0 then 0 else b) then 16 else (if b < 0 then 0 else b)).toNat

theorem kz_le (b : Int) : kz b ≤ 16 := by unfold kz; split <;> split <;> omega

theorem size_eq (b : Int) : hash.size b = some (kz b : Int) := by
 unfold hash.size kz
 congr 1
 split <;> split <;> omega

/-! ### low, Turn, Next -/

theorem two_pow_le16 {k : Nat} (hk : k ≤ 16) : 2 ^ k ≤ 65536 := Nat.le_trans (Nat.pow_le_pow_right (by decide) hk) (by decide)

theorem shl_one {k : Nat} (hk : k ≤ 16) : IntKind.wrap .u64 (1 * 2 ^ min (Int.toNat (k : Int)) (IntKind.bits .u64)) = ((2 ^ k : Nat) : Int) := by
 have h := two_pow_le16 hk
 have : min (Int.toNat (k : Int)) (IntKind.bits .u64) = k := by simp [IntKind.bits]; omega
 rw [this]
 have e : (1 : Int) * 2 ^ k = ((2 ^ k : Nat) : Int) := by simp
 rw [e]
 exact u64_wrap (Int.natCast_nonneg _) (by omega)

theorem low_eq (n : Nat) (b : Int) (hn : n < 2 ^ 64) : hash.low n b = some ((n % 2 ^ kz b : Nat) : Int) := by
 have hk := kz_le b
 have h := two_pow_le16 hk
 have h1 : 0 < 2 ^ kz b := Nat.two_pow_pos _
 unfold hash.low
 rw [size_eq]
 simp only [Option.bind_some]
 rw [need_eq (Int.natCast_nonneg _), shl_one hk]
 have e : IntKind.wrap .u64 (((2 ^ kz b : Nat) : Int) - 1) = ((2 ^ kz b - 1 : Nat) : Int) := by
  rw [show (((2 ^ kz b : Nat) : Int) - 1) = ((2 ^ kz b - 1 : Nat) : Int) by omega]
  exact u64_wrap (Int.natCast_nonneg _) (by omega)
 rw [e, u64_and _ _ hn (by omega), Nat.and_two_pow_sub_one_eq_mod]

theorem tdiv_nat (a b : Nat) : (a : Int).tdiv b = ((a / b : Nat) : Int) := by simp [Int.tdiv_eq_ediv_of_nonneg]

theorem tmod_nat (a b : Nat) : (a : Int).tmod b = ((a % b : Nat) : Int) := by simp [Int.tmod_eq_emod_of_nonneg]

theorem u64_range (n : Int) : 0 ≤ IntKind.wrap .u64 n ∧ IntKind.wrap .u64 n < 18446744073709551616 := by
 simp [IntKind.wrap, IntKind.bits, IntKind.signed]; omega

theorem xor_range (a b : Int) : 0 ≤ Go.bits .xor .u64 a b ∧ Go.bits .xor .u64 a b < 18446744073709551616 := by
 unfold Go.bits
 exact u64_range _

theorem u64_wrap_wrap (n : Int) : IntKind.wrap .u64 (IntKind.wrap .u64 n) = IntKind.wrap .u64 n := u64_wrap (u64_range n).1 (u64_range n).2

def stepO (h : Int) (c : UInt8) : Int := IntKind.wrap .u64 ((Go.bits .xor .u64 h (IntKind.wrap .u64 (c.toNat : Int))) * 1099511628211)

theorem foldl_take {α β : Type} (f : α → β → α) (a : α) (s : List β) (i : Nat) (hi : i < s.length) : (s.take (i + 1)).foldl f a = f ((s.take i).foldl f a) s[i] := by
 rw [List.take_add_one, List.getElem?_eq_getElem hi, List.foldl_append]
 rfl

theorem bix_get {s : List UInt8} {i : Nat} (hi : i < s.length) : bix s (i : Int) = (s[i].toNat : Int) := by
 simp [bix, List.getD, List.getElem?_eq_getElem hi]

theorem Of_loop (s : List UInt8) (h : Int) (hs : s.length < 9223372036854775807) : hash.Of.loop0 s ⟨h, 0⟩ = some (s.foldl stepO h) := by
 unfold hash.Of.loop0
 have := whileO_count (body := hash.Of.body0 s) (fun i => ⟨(s.take i).foldl stepO h, (i : Int)⟩) s.length (r := s.foldl stepO h) (fun i hi => ?_) ?_
 ·exact this
 ·unfold hash.Of.body0
  simp only
  rw [if_pos (by omega), need_eq ⟨by omega, by omega⟩, bix_get hi, i64_wrap (by omega) (by omega), foldl_take stepO h s i hi]
  rfl
 ·unfold hash.Of.body0
  simp

def shx (h : Int) : Int := Go.bits .xor .u64 h (h / 2 ^ min (Int.toNat 33) (IntKind.bits .u64))

def mixO (h : Int) (c : Int) : Int := IntKind.wrap .u64 (shx h * c)

def mixed (h : Int) : Int := shx (mixO (mixO h 18397679294719823053) 14181476777654086739)

theorem shx_wrap (h : Int) : IntKind.wrap .u64 (shx h * 1) = shx h := by
 rw [Int.mul_one]; exact u64_wrap (xor_range _ _).1 (xor_range _ _).2

theorem Of_mix (h : Int) : hash.Of.loop2 ⟨h, 0⟩ = some (mixed h) := by
 unfold hash.Of.loop2
 have step : ∀ (h i : Int) (c : Int), InB i 3 → ix ([18397679294719823053, 14181476777654086739, 1] : List Int) i = c → hash.Of.body2 ⟨h, i⟩ = some (.inl ⟨mixO h c, IntKind.wrap .i64 (i + 1)⟩) := by
  intro h i c hi hc
  unfold hash.Of.body2
  simp only [letO]
  rw [if_pos (by have := hi.2; omega), need_eq hi, hc]
  rfl
 refine whileO_next (step h 0 _ ⟨by decide, by decide⟩ rfl) ?_
 refine whileO_next (step _ _ _ ⟨by decide, by decide⟩ rfl) ?_
 refine whileO_next (step _ _ _ ⟨by decide, by decide⟩ rfl) ?_
 refine whileO_end ?_
 unfold hash.Of.body2
 simp only
 rw [if_neg (by decide)]
 show some (Sum.inr (IntKind.wrap .u64 (shx _ * 1))) = _
 rw [shx_wrap]
 rfl

def ofN (seed : Int) (s : List UInt8) : Int := mixed (s.foldl stepO (Go.bits .xor .u64 14695981039346656037 seed))

theorem Of_eq (seed : Int) (s : List UInt8) (hs : s.length < 9223372036854775807) : hash.Of seed s = some (ofN seed s) := by
 unfold hash.Of
 rw [Of_loop s _ hs]
 simp only [Option.bind_some]
 rw [Of_mix]
 rfl

theorem wf_u64 {n : Int} (h : (Lit.int .u64 n).wf = true) : 0 ≤ n ∧ n < 18446744073709551616 := by
 have : 0 ≤ n ∧ n ≤ 18446744073709551615 := by simpa [Lit.wf, IntKind.min, IntKind.max, IntKind.signed, IntKind.bits] using h
 omega

theorem wf_i64 {n : Int} (h : (Lit.int .i64 n).wf = true) : -9223372036854775808 ≤ n ∧ n < 9223372036854775808 := by
 have : -9223372036854775808 ≤ n ∧ n ≤ 9223372036854775807 := by simpa [Lit.wf, IntKind.min, IntKind.max, IntKind.signed, IntKind.bits] using h
 omega

theorem shx_range (h : Int) : 0 ≤ shx h ∧ shx h < 18446744073709551616 := xor_range _ _

theorem ofN_range (a : Int) (s : List UInt8) : 0 ≤ ofN a s ∧ ofN a s < 18446744073709551616 := shx_range _

theorem kz_self {b : Int} (h0 : 0 ≤ b) (h1 : b ≤ 16) : (kz b : Int) = b := by
 unfold kz; split <;> split <;> omega

end Go.Pu
