import Derived.Test.YtngliepchpkiiaaDoorLiftT
namespace Go.Pu
open Go.Lift

/-! ### Numbers -/
theorem i64w {n : Int} (h0 : -9223372036854775808 ≤ n) (h1 : n < 9223372036854775808) : IntKind.wrap .i64 n = n := by
 rw [IntKind.wrap_i64]; omega
theorem u64w {n : Int} (h0 : 0 ≤ n) (h1 : n < 18446744073709551616) : IntKind.wrap .u64 n = n := by
 simp [IntKind.wrap, IntKind.bits, IntKind.signed]; omega
theorem u8w {n : Int} (h0 : 0 ≤ n) (h1 : n < 256) : IntKind.wrap .u8 n = n := by
 simp [IntKind.wrap, IntKind.bits, IntKind.signed]; omega
/-! ### Lists by places -/
theorem ix_get {α : Type} [Inhabited α] {xs : List α} {i : Nat} (h : i < xs.length) : ix xs (i : Int) = xs[i] := by
 simp [ix, List.getD, List.getElem?_eq_getElem h]
theorem bix_get' {s : List UInt8} {i : Nat} (hi : i < s.length) : bix s (i : Int) = (s[i].toNat : Int) := by
 simp [bix, List.getD, List.getElem?_eq_getElem hi]
theorem sub_zero {α : Type} (xs : List α) (n : Int) : sub xs 0 n = xs.take n.toNat := by simp [sub]
theorem sub_one {α : Type} [Inhabited α] {xs : List α} {i : Nat} (h : i < xs.length) : sub xs (i : Int) ((i : Int) + 1) = [xs[i]] := by
 have e : ((i : Int) + 1).toNat = i + 1 := by omega
 simp only [sub, e, Int.toNat_natCast]
 rw [List.take_add_one, List.drop_append, List.getElem?_eq_getElem h]
 simp [List.length_take, Nat.min_eq_left (Nat.le_of_lt h)]

/-! ### Loops -/
theorem whileO_to {σ ρ : Type} {body : σ → Option (σ ⊕ ρ)} (st : Nat → σ) (n : Nat) (j : Nat) (hj : j ≤ n) {r : ρ} (h : ∀ i, j ≤ i → i < n → body (st i) = some (.inl (st (i + 1)))) (he : whileO body (st n) = some r) : whileO body (st j) = some r := by
 have : ∀ k, k ≤ n - j → whileO body (st (n - k)) = some r := by
  intro k
  induction k with
  | zero => intro _; exact he
  | succ k ih =>
   intro hk
   refine whileO_next (h (n - (k + 1)) (by omega) (by omega)) ?_
   rw [show n - (k + 1) + 1 = n - k by omega]
   exact ih (by omega)
 have := this (n - j) (Nat.le_refl _)
 rwa [show n - (n - j) = j by omega] at this

theorem whileO_known {σ ρ : Type} {body : σ → Option (σ ⊕ ρ)} (st : Nat → σ) (n : Nat) {r : ρ} (h : ∀ i, i < n → body (st i) = some (.inl (st (i + 1)))) (he : body (st n) = some (.inr r)) : whileO body (st 0) = some r :=
 whileO_to st n 0 (Nat.zero_le _) (fun i _ hi => h i hi) (whileO_end he)

/-- The first place at which something is told. -/
theorem whileO_first {σ ρ : Type} {body : σ → Option (σ ⊕ ρ)} (st : Nat → σ) (n : Nat) (f : Nat → Option ρ) (z : ρ)
  (h : ∀ i, i < n → body (st i) = some (match f i with | some r => .inr r | none => .inl (st (i + 1)))) (he : body (st n) = some (.inr z)) :
  ∀ (m j : Nat), j + m = n → whileO body (st j) = some (((List.range' j m).findSome? f).getD z)
 | 0, j, e => by
  obtain rfl : j = n := by omega
  exact whileO_end he
 | m + 1, j, e => by
  have hb := h j (by omega)
  rw [List.range'_succ, List.findSome?_cons]
  cases hf : f j with
  | some r => rw [hf] at hb; exact whileO_end hb
  | none => rw [hf] at hb; exact whileO_next hb (whileO_first st n f z h he m (j + 1) (by omega))

open Classical in
/-- The place of the first one. -/
def idxF {α : Type} (p : α → Bool) : List α → Nat → Option Nat
 | [], _ => none
 | x :: xs, j => if p x then some j else idxF p xs (j + 1)

theorem whileO_idx {σ ρ α : Type} [Inhabited α] {body : σ → Option (σ ⊕ ρ)} (st : Nat → σ) (xs : List α) (p : α → Bool) (found : Nat → ρ) (z : ρ)
  (h : ∀ i (hi : i < xs.length), body (st i) = some (if p xs[i] = true then .inr (found i) else .inl (st (i + 1)))) (he : body (st xs.length) = some (.inr z)) :
  ∀ (m j : Nat), j + m = xs.length → whileO body (st j) = some (match idxF p (xs.drop j) j with | some i => found i | none => z)
 | 0, j, e => by
  obtain rfl : j = xs.length := by omega
  rw [List.drop_length]
  exact whileO_end he
 | m + 1, j, e => by
  have hj : j < xs.length := by omega
  have hb := h j hj
  rw [List.drop_eq_getElem_cons hj]
  simp only [idxF]
  by_cases hp : p xs[j] = true
  ·rw [if_pos hp] at hb ⊢
   exact whileO_end hb
  ·rw [if_neg hp] at hb ⊢
   exact whileO_next hb (whileO_idx st xs p found z h he m (j + 1) (by omega))

theorem idxF_isSome {α : Type} {p : α → Bool} : ∀ {xs : List α} {j : Nat}, (idxF p xs j).isSome = xs.any p
 | [], _ => rfl
 | x :: xs, j => by
  simp only [idxF, List.any_cons]
  by_cases hp : p x = true
  ·simp [hp]
  ·simp [hp, idxF_isSome (xs := xs) (j := j + 1)]

theorem whileO_firstE {σ ρ : Type} {body : σ → Option (σ ⊕ ρ)} (s0 : σ) (st : Nat → σ) (n : Nat) (f : Nat → Option ρ) (z : ρ)
  (h : ∀ i, i < n → body (st i) = some (match f i with | some r => .inr r | none => .inl (st (i + 1)))) (he : body (st n) = some (.inr z)) (h0 : s0 = st 0 := by rfl) :
  whileO body s0 = some (((List.range' 0 n).findSome? f).getD z) := h0 ▸ whileO_first st n f z h he n 0 (by omega)
open Classical in
theorem whileO_idxE {σ ρ α : Type} [Inhabited α] {body : σ → Option (σ ⊕ ρ)} (s0 : σ) (st : Nat → σ) (xs : List α) (p : α → Bool) (found : Nat → ρ) (z : ρ)
  (h : ∀ i (hi : i < xs.length), body (st i) = some (if p xs[i] = true then .inr (found i) else .inl (st (i + 1)))) (he : body (st xs.length) = some (.inr z)) (h0 : s0 = st 0 := by rfl) :
  whileO body s0 = some (match idxF p xs 0 with | some i => found i | none => z) := by
 have := whileO_idx st xs p found z h he xs.length 0 (by omega)
 subst h0
 rw [this, List.drop_zero]
theorem whileO_knownE {σ ρ : Type} {body : σ → Option (σ ⊕ ρ)} (s0 : σ) (st : Nat → σ) (n : Nat) {r : ρ} (h : ∀ i, i < n → body (st i) = some (.inl (st (i + 1)))) (he : body (st n) = some (.inr r)) (h0 : s0 = st 0 := by rfl) : whileO body s0 = some r :=
 h0 ▸ whileO_known st n h he

/-- Is there one among them? -/
theorem whileO_anyL {σ ρ α : Type} [Inhabited α] {body : σ → Option (σ ⊕ ρ)} (s0 : σ) (st : Nat → σ) (xs : List α) (p : α → Bool) (a z : ρ)
  (h : ∀ i (hi : i < xs.length), body (st i) = some (if p xs[i] = true then .inr a else .inl (st (i + 1)))) (he : body (st xs.length) = some (.inr z)) (h0 : s0 = st 0 := by rfl) :
  whileO body s0 = some (if xs.any p = true then a else z) := by
 rw [whileO_idxE s0 st xs p (fun _ => a) z h he h0, ← idxF_isSome (p := p) (j := 0)]
 cases idxF p xs 0 <;> rfl

end Go.Pu
