/- A sum of 32 bits is of degree one: a burst is seen. -/
import Derived.Test.YtdgbjndkccjijaaUBPuCrc1
set_option maxRecDepth 100000
namespace Go.Pu
open Go.Lift

theorem stepN_bit (n i : Nat) : (stepN n).testBit i = (n.testBit (i + 1) ^^ (n.testBit 0 && polyN.testBit i)) := by
 unfold stepN
 rw [Nat.testBit_xor, ← Nat.testBit_succ, Nat.testBit_zero]
 by_cases h : n % 2 = 1
 ·rw [if_pos h, decide_eq_true h]; simp
 ·rw [if_neg h, decide_eq_false h]; simp

theorem stepN_xor (a b : Nat) : stepN (a ^^^ b) = stepN a ^^^ stepN b := by
 apply Nat.eq_of_testBit_eq
 intro i
 rw [Nat.testBit_xor, stepN_bit, stepN_bit, stepN_bit, Nat.testBit_xor, Nat.testBit_xor]
 cases a.testBit (i + 1) <;> cases b.testBit (i + 1) <;> cases a.testBit 0 <;> cases b.testBit 0 <;> cases polyN.testBit i <;> rfl

theorem stepsN_xor (a b : Nat) : ∀ k, stepsN k (a ^^^ b) = stepsN k a ^^^ stepsN k b
 | 0 => rfl
 | k + 1 => by rw [stepsN, stepsN_xor a b k, stepN_xor]; rfl

theorem stepN_zero : stepN 0 = 0 := by decide
theorem stepN_even (m : Nat) : stepN (m * 2) = m := by
 unfold stepN
 rw [if_neg (by omega), Nat.xor_zero]; omega

theorem stepsN_add (n a : Nat) : ∀ b, stepsN (b + a) n = stepsN b (stepsN a n)
 | 0 => by rw [Nat.zero_add]; rfl
 | b + 1 => by rw [Nat.add_right_comm]; show stepN (stepsN (b + a) n) = stepN (stepsN b (stepsN a n)); rw [stepsN_add n a b]

theorem stepsN_shift : ∀ (k m : Nat), stepsN k (m <<< k) = m
 | 0, m => rfl
 | k + 1, m => by
  have e : m <<< (k + 1) = (m * 2) <<< k := by rw [Nat.shiftLeft_eq, Nat.shiftLeft_eq, Nat.pow_succ]; rw [Nat.mul_assoc, Nat.mul_comm 2]
  show stepN (stepsN k (m <<< (k + 1))) = m
  rw [e, stepsN_shift k (m * 2), stepN_even]

theorem stepN_ne {n : Nat} (h : n < 4294967296) (h0 : n ≠ 0) : stepN n ≠ 0 := by
 intro e
 unfold stepN polyN at e
 have e2 : n / 2 = if n % 2 = 1 then 3988292384 else 0 := by
  have := Nat.eq_of_testBit_eq (x := n / 2) (y := if n % 2 = 1 then 3988292384 else 0) fun i => by
   have := congrArg (fun x => x.testBit i) e
   simp only [Nat.testBit_xor, Nat.zero_testBit] at this
   revert this
   cases (n / 2).testBit i <;> cases (if n % 2 = 1 then 3988292384 else 0).testBit i <;> simp
  exact this
 split at e2 <;> omega

theorem stepsN_ne {n : Nat} (h : n < 4294967296) (h0 : n ≠ 0) : ∀ k, stepsN k n ≠ 0
 | 0 => h0
 | k + 1 => stepN_ne (stepsN_lt h k) (stepsN_ne h h0 k)

/-- Bytes as one number, the first one lowest. -/
def valN : List UInt8 → Nat
 | [] => 0
 | b :: s => b.toNat ^^^ (valN s <<< 8)

theorem moreN_val : ∀ (s : List UInt8) (n : Nat), moreN n s = stepsN (8 * s.length) (n ^^^ valN s)
 | [], n => by simp [moreN, valN, stepsN]
 | b :: s, n => by
  show moreN (byteN n b.toNat) s = _
  rw [moreN_val s]
  have e : byteN n b.toNat ^^^ valN s = stepsN 8 (n ^^^ valN (b :: s)) := by
   show stepsN 8 (n ^^^ b.toNat) ^^^ valN s = stepsN 8 (n ^^^ (b.toNat ^^^ (valN s <<< 8)))
   rw [← Nat.xor_assoc, stepsN_xor (n ^^^ b.toNat), stepsN_shift]
  rw [e, ← stepsN_add]
  congr 1

theorem valN_append : ∀ (s t : List UInt8), valN (s ++ t) = valN s ^^^ (valN t <<< (8 * s.length))
 | [], t => by simp [valN]
 | b :: s, t => by
  show b.toNat ^^^ (valN (s ++ t) <<< 8) = (b.toNat ^^^ (valN s <<< 8)) ^^^ _
  rw [valN_append s t, Nat.shiftLeft_xor_distrib, ← Nat.shiftLeft_add, Nat.xor_assoc]
  congr 4

theorem valN_le4 (n : Nat) (h : n < 4294967296) : valN (le4 n) = n := by
 unfold le4 valN valN valN valN valN
 have e : ∀ x : Nat, (UInt8.ofNat x).toNat = x % 256 := fun x => by simp
 rw [e, e, e, e]
 apply Nat.eq_of_testBit_eq
 intro i
 have hb : ∀ (x k j : Nat), ((x % 256) <<< k).testBit j = (decide (k ≤ j) && (decide (j - k < 8) && x.testBit (j - k))) := fun x k j => by
  rw [Nat.testBit_shiftLeft, show (256 : Nat) = 2 ^ 8 from rfl, Nat.testBit_mod_two_pow]
 have hd : ∀ (k j : Nat), (n / 2 ^ k).testBit j = n.testBit (j + k) := fun k j => by rw [Nat.testBit_div_two_pow, Nat.add_comm]
 have h1 : n / 256 = n / 2 ^ 8 := rfl
 have h2 : n / 65536 = n / 2 ^ 16 := rfl
 have h3 : n / 16777216 = n / 2 ^ 24 := rfl
 rw [h1, h2, h3]
 simp only [Nat.testBit_xor, Nat.shiftLeft_xor_distrib, ← Nat.shiftLeft_add, hb, hd, Nat.zero_shiftLeft, Nat.xor_zero]
 rw [show (256 : Nat) = 2 ^ 8 from rfl, Nat.testBit_mod_two_pow]
 by_cases c1 : i < 8
 ·simp [c1, show ¬ 8 ≤ i by omega, show ¬ 16 ≤ i by omega, show ¬ 24 ≤ i by omega]
 ·by_cases c2 : i < 16
  ·simp [c1, show 8 ≤ i by omega, show i - 8 < 8 by omega, show ¬ 16 ≤ i by omega, show ¬ 24 ≤ i by omega, show i - 8 + 8 = i by omega]
  ·by_cases c3 : i < 24
   ·simp [c1, show 8 ≤ i by omega, show ¬ i - 8 < 8 by omega, show 16 ≤ i by omega, show i - 16 < 8 by omega, show ¬ 24 ≤ i by omega, show i - 16 + 16 = i by omega]
   ·by_cases c4 : i < 32
    ·simp [c1, show 8 ≤ i by omega, show ¬ i - 8 < 8 by omega, show 16 ≤ i by omega, show ¬ i - 16 < 8 by omega, show 24 ≤ i by omega, show i - 24 < 8 by omega, show i - 24 + 24 = i by omega]
    ·have : n.testBit i = false := Nat.testBit_lt_two_pow (Nat.lt_of_lt_of_le h (by
      have := Nat.pow_le_pow_right (n := 2) (by omega) (show 32 ≤ i by omega)
      omega))
     rw [this]
     simp [c1, show 8 ≤ i by omega, show ¬ i - 8 < 8 by omega, show 16 ≤ i by omega, show ¬ i - 16 < 8 by omega, show 24 ≤ i by omega, show ¬ i - 24 < 8 by omega]

theorem xor_cancel {a b : Nat} (h : a ^^^ b = 0) : a = b := by
 apply Nat.eq_of_testBit_eq
 intro i
 have := congrArg (fun x => x.testBit i) h
 simp only [Nat.testBit_xor, Nat.zero_testBit] at this
 revert this
 cases a.testBit i <;> cases b.testBit i <;> simp

/-- What has its sum behind. -/
theorem fits_iff (t : List UInt8) (c : Nat) (hc : c < 4294967296) : c = ofN t ↔ moreN 4294967295 (t ++ le4 c) = stepsN 32 4294967295 := by
 have hm := moreN_lt t (n := 4294967295) (by omega)
 rw [moreN_append, moreN_val (le4 c), valN_le4 c hc, show 8 * (le4 c).length = 32 from rfl]
 constructor
 ·rintro rfl
  unfold ofN
  rw [← Nat.xor_assoc, Nat.xor_self, Nat.zero_xor]
 ·intro h
  have h2 : stepsN 32 ((moreN 4294967295 t ^^^ c) ^^^ 4294967295) = 0 := by rw [stepsN_xor, h, Nat.xor_self]
  have h3 : (moreN 4294967295 t ^^^ c) ^^^ 4294967295 = 0 := by
   have hlt : (moreN 4294967295 t ^^^ c) ^^^ 4294967295 < 4294967296 := by
    have : (moreN 4294967295 t ^^^ c) ^^^ 4294967295 < 2 ^ 32 := Nat.xor_lt_two_pow (Nat.xor_lt_two_pow (by omega) (by omega)) (by omega)
    simpa using this
   exact Classical.byContradiction fun hne => stepsN_ne hlt hne 32 h2
  have h4 := xor_cancel h3
  show c = moreN 4294967295 t ^^^ 4294967295
  generalize moreN 4294967295 t = M at h4
  rw [← h4, ← Nat.xor_assoc, Nat.xor_self, Nat.zero_xor]

theorem le4_val : ∀ {s : List UInt8}, s.length = 4 → ∃ c, c < 4294967296 ∧ s = le4 c
 | [a, b, c, d], _ => by
  refine ⟨a.toNat + 256 * b.toNat + 65536 * c.toNat + 16777216 * d.toNat, ?_, ?_⟩
  ·have := a.toNat_lt; have := b.toNat_lt; have := c.toNat_lt; have := d.toNat_lt; omega
  ·have h1 := a.toNat_lt; have h2 := b.toNat_lt; have h3 := c.toNat_lt; have h4 := d.toNat_lt
   unfold le4
   have e : ∀ (x : UInt8) (n : Nat), n % 256 = x.toNat → UInt8.ofNat n = x := fun x n h => by
    apply UInt8.toNat_inj.1
    simp [h]
   rw [e a _ (by omega), e b _ (by omega), e c _ (by omega), e d _ (by omega)]

/-- A text that has its sum behind. -/
theorem seal_iff {s : List UInt8} (h : 4 ≤ s.length) : sealN (s.take (s.length - 4)) = s ↔ moreN 4294967295 s = stepsN 32 4294967295 := by
 obtain ⟨c, hc, hs⟩ := le4_val (s := s.drop (s.length - 4)) (by simp; omega)
 have hsp : s.take (s.length - 4) ++ le4 c = s := by rw [← hs, List.take_append_drop]
 have hf := fits_iff (s.take (s.length - 4)) c hc
 rw [hsp] at hf
 rw [← hf]
 constructor
 ·intro h1
  unfold sealN at h1
  rw [← hsp] at h1
  have hl : (List.take (s.length - 4) s ++ le4 c).length - 4 = s.length - 4 := by rw [hsp]
  rw [hsp] at h1
  have h2 : s.take (s.length - 4) ++ le4 (ofN (s.take (s.length - 4))) = s.take (s.length - 4) ++ le4 c := by rw [h1, hsp]
  have h3 := List.append_cancel_left h2
  have := congrArg valN h3
  rw [valN_le4 _ (ofN_lt _), valN_le4 _ hc] at this
  exact this.symm
 ·intro h1
  unfold sealN
  rw [← h1, hsp]

/-- A burst: what has its sum behind has it no more. -/
theorem burst {s s' : List UInt8} {m k : Nat} (h4 : 4 ≤ s.length) (hl : s'.length = s.length) (hs : sealN (s.take (s.length - 4)) = s) (hm : m < 4294967296) (h0 : m ≠ 0) (hk : k ≤ 8 * s.length) (hv : valN s' = valN s ^^^ (m <<< k)) :
  sealN (s'.take (s'.length - 4)) ≠ s' := by
 rw [Ne, seal_iff (by omega), moreN_val, hl, hv, ← Nat.xor_assoc, stepsN_xor, ← moreN_val, (seal_iff h4).1 hs]
 intro h
 have h2 : stepsN (8 * s.length) (m <<< k) = 0 := by
  have := congrArg (fun x => stepsN 32 4294967295 ^^^ x) h
  simp only [← Nat.xor_assoc, Nat.xor_self, Nat.zero_xor] at this
  exact this
 have e : 8 * s.length = (8 * s.length - k) + k := by omega
 rw [e, stepsN_add, stepsN_shift] at h2
 exact stepsN_ne hm h0 _ h2

/-- One bit is turned. -/
theorem valN_set (x : Nat) (hx : x < 256) : ∀ (s : List UInt8) (j : Nat) (h : j < s.length), valN (s.set j (UInt8.ofNat (s[j].toNat ^^^ x))) = valN s ^^^ (x <<< (8 * j))
 | b :: s, 0, h => by
  show (UInt8.ofNat (b.toNat ^^^ x)).toNat ^^^ (valN s <<< 8) = (b.toNat ^^^ (valN s <<< 8)) ^^^ (x <<< 0)
  have hb := b.toNat_lt
  have h2 : b.toNat ^^^ x < 2 ^ 8 := Nat.xor_lt_two_pow (by omega) (by omega)
  have e : (UInt8.ofNat (b.toNat ^^^ x)).toNat = b.toNat ^^^ x := by
   rw [UInt8.toNat_ofNat']; exact Nat.mod_eq_of_lt h2
  rw [e, Nat.shiftLeft_zero, Nat.xor_assoc, Nat.xor_assoc, Nat.xor_comm x]
 | b :: s, j + 1, h => by
  show b.toNat ^^^ (valN (s.set j (UInt8.ofNat ((s[j]'(by simpa using h)).toNat ^^^ x))) <<< 8) = (b.toNat ^^^ (valN s <<< 8)) ^^^ _
  rw [valN_set x hx s j (by simpa using h), Nat.shiftLeft_xor_distrib, ← Nat.shiftLeft_add, Nat.xor_assoc]
  congr 3

end Go.Pu
