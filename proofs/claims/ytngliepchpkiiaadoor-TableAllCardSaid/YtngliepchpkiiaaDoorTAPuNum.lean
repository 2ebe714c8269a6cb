import Derived.Test.YtngliepchpkiiaaDoorTAPuBase
import Derived.Test.YtngliepchpkiiaaDoorTAC
set_option maxRecDepth 100000
namespace Go.Pu
open Go.Lift

def dval (s : List UInt8) : Nat := s.foldl (fun n c => 10 * n + (c.toNat - 48)) 0
def isDig (c : UInt8) : Prop := 48 ≤ c.toNat ∧ c.toNat ≤ 57
instance (c : UInt8) : Decidable (isDig c) := inferInstanceAs (Decidable (_ ∧ _))
theorem dval_snoc (s : List UInt8) (c : UInt8) : dval (s ++ [c]) = 10 * dval s + (c.toNat - 48) := by simp [dval, List.foldl_append]
theorem dval_one (c : UInt8) : dval [c] = c.toNat - 48 := by simp [dval]

theorem dval_take_le (s : List UInt8) (i : Nat) : dval (s.take i) ≤ dval s := by
 have : ∀ (k : Nat), dval (s.take i) ≤ dval (s.take (i + k)) := by
  intro k
  induction k with
  | zero => exact Nat.le_refl _
  | succ k ih =>
   rw [show i + (k + 1) = (i + k) + 1 by omega, List.take_add_one]
   cases h : s[i + k]? with
   | none => simpa using ih
   | some c => simp only [Option.toList_some]; rw [dval_snoc]; omega
 have h := this s.length
 rwa [List.take_of_length_le (i := i + s.length) (by omega)] at h

def dtext (v : Nat) : List UInt8 := if h : v < 10 then [UInt8.ofNat (48 + v)] else dtext (v / 10) ++ [UInt8.ofNat (48 + v % 10)]
termination_by v
theorem dtext_small {v : Nat} (h : v < 10) : dtext v = [UInt8.ofNat (48 + v)] := by rw [dtext, dif_pos h]
theorem dtext_big {v : Nat} (h : ¬ v < 10) : dtext v = dtext (v / 10) ++ [UInt8.ofNat (48 + v % 10)] := by rw [dtext, dif_neg h]

theorem dtext_len2 : ∀ (k v : Nat), v < 10 ^ (k + 1) → (dtext v).length ≤ k + 1
 | 0, v, h => by rw [dtext_small (by omega)]; simp
 | k + 1, v, h => by
  by_cases h1 : v < 10
  ·rw [dtext_small h1]; simp
  ·rw [dtext_big h1]
   have := dtext_len2 k (v / 10) (by rw [Nat.pow_succ] at h; omega)
   simp; omega

theorem isDig_ofNat (d : Nat) (h : d < 10) : isDig (UInt8.ofNat (48 + d)) ∧ (UInt8.ofNat (48 + d)).toNat = 48 + d := by
 have : ∀ d : Fin 10, isDig (UInt8.ofNat (48 + d.val)) ∧ (UInt8.ofNat (48 + d.val)).toNat = 48 + d.val := by decide
 exact this ⟨d, h⟩

theorem dtext_dig : ∀ (v : Nat), (∀ c ∈ dtext v, isDig c) ∧ dval (dtext v) = v
 | v => by
  by_cases h : v < 10
  ·have := isDig_ofNat v h
   rw [dtext_small h]
   refine ⟨by simpa using this.1, ?_⟩
   rw [dval_one, this.2]; omega
  ·have ih := dtext_dig (v / 10)
   have := isDig_ofNat (v % 10) (by omega)
   rw [dtext_big h]
   refine ⟨fun c hc => ?_, ?_⟩
   ·rcases List.mem_append.1 hc with hc | hc
    ·exact ih.1 c hc
    ·rw [List.mem_singleton] at hc; subst hc; exact this.1
   ·rw [dval_snoc, ih.2, this.2]; omega
termination_by v => v

/-! ### Text -/
theorem rDigits_mono : ∀ (k : Nat) (n : Int), OLe (mewsref01.digits.rec k n) (mewsref01.digits.rec (k + 1) n)
 | 0, n => OLe.none
 | k + 1, n => by
  intro r hr
  rw [mewsref01.digits.rec] at hr ⊢
  by_cases h : (-10) < n
  ·rw [if_pos h] at hr ⊢; exact hr
  ·rw [if_neg h] at hr ⊢
   cases h1 : mewsref01.digits.rec k (IntKind.wrap .i64 (n.tdiv 10)) with
   | none => rw [h1] at hr; simp at hr
   | some q => rw [h1] at hr; rw [rDigits_mono k _ q h1]; exact hr

theorem signs_at (d : Nat) (h : d < 10) : sub ([48, 49, 50, 51, 52, 53, 54, 55, 56, 57] : List UInt8) (d : Int) ((d : Int) + 1) = [UInt8.ofNat (48 + d)] := by
 have : ∀ d : Fin 10, sub ([48, 49, 50, 51, 52, 53, 54, 55, 56, 57] : List UInt8) (d.val : Int) ((d.val : Int) + 1) = [UInt8.ofNat (48 + d.val)] := by decide
 exact this ⟨d, h⟩

theorem neg_tmod10 (v : Nat) : (-(v : Int)).tmod 10 = -((v % 10 : Nat) : Int) := by
 rw [Int.neg_tmod]; congr 1
theorem neg_tdiv10 (v : Nat) : (-(v : Int)).tdiv 10 = -((v / 10 : Nat) : Int) := by
 rw [Int.neg_tdiv]; congr 1

end Go.Pu
