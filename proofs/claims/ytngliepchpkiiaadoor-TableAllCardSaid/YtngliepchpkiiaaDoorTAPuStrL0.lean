import Derived.Test.YtngliepchpkiiaaDoorTAPuBase
set_option maxHeartbeats 0
set_option maxRecDepth 100000
namespace Go.Pu
open Go.Lift

abbrev Str := List UInt8

/-- A loop with something that gets less. -/
theorem whileO_meas {σ ρ : Type} {body : σ → Option (σ ⊕ ρ)} (st : σ → Prop) (μ : σ → Nat) (Q : ρ → Prop)
  (h : ∀ s, st s → (∃ s', body s = some (.inl s') ∧ st s' ∧ μ s' < μ s) ∨ (∃ r, body s = some (.inr r) ∧ Q r)) (s : σ) (h0 : st s) : ∃ r, whileO body s = some r ∧ Q r := by
 have : ∀ n s, μ s ≤ n → st s → ∃ r, whileO body s = some r ∧ Q r := by
  intro n
  induction n with
  | zero =>
   intro s hn hs
   rcases h s hs with ⟨s', _, _, h3⟩ | ⟨r, h1, h2⟩
   ·omega
   ·exact ⟨r, whileO_end h1, h2⟩
  | succ n ih =>
   intro s hn hs
   rcases h s hs with ⟨s', h1, h2, h3⟩ | ⟨r, h1, h2⟩
   ·obtain ⟨r, h4, h5⟩ := ih s' (by omega) h2
    exact ⟨r, whileO_next h1 h4, h5⟩
   ·exact ⟨r, whileO_end h1, h2⟩
 exact this (μ s) s (Nat.le_refl _) h0

/-! ### The order of bytes -/
theorem strLt_cons (a b : UInt8) (x y : Str) : strLt (a :: x) (b :: y) = (decide (a < b) || (a == b && strLt x y)) := rfl
theorem strLt_nil (x : Str) : strLt x [] = false := by cases x <;> rfl

theorem strLt_irrefl : ∀ x : Str, strLt x x = false
 | [] => rfl
 | a :: x => by rw [strLt_cons, strLt_irrefl x]; simp [UInt8.lt_irrefl]

theorem strLt_trans : ∀ {x y z : Str}, strLt x y = true → strLt y z = true → strLt x z = true
 | x, y, [], _, h => by simp [strLt_nil] at h
 | x, [], _ :: _, h, _ => by simp [strLt_nil] at h
 | [], _ :: _, _ :: _, _, _ => rfl
 | a :: x, b :: y, c :: z, h1, h2 => by
  rw [strLt_cons] at *
  simp only [Bool.or_eq_true, decide_eq_true_eq, Bool.and_eq_true, beq_iff_eq] at *
  rcases h1 with h1 | ⟨h1, h1'⟩
  ·rcases h2 with h2 | ⟨h2, _⟩
   ·exact .inl (UInt8.lt_trans h1 h2)
   ·exact .inl (h2 ▸ h1)
  ·rcases h2 with h2 | ⟨h2, h2'⟩
   ·exact .inl (h1 ▸ h2)
   ·exact .inr ⟨h1.trans h2, strLt_trans h1' h2'⟩

theorem strLt_tri : ∀ x y : Str, x = y ∨ strLt x y = true ∨ strLt y x = true
 | [], [] => .inl rfl
 | [], _ :: _ => .inr (.inl rfl)
 | _ :: _, [] => .inr (.inr rfl)
 | a :: x, b :: y => by
  rw [strLt_cons, strLt_cons]
  simp only [Bool.or_eq_true, decide_eq_true_eq, Bool.and_eq_true, beq_iff_eq]
  by_cases h : a = b
  ·subst h
   rcases strLt_tri x y with h | h | h
   ·exact .inl (by rw [h])
   ·exact .inr (.inl (.inr ⟨rfl, h⟩))
   ·exact .inr (.inr (.inr ⟨rfl, h⟩))
  ·by_cases h1 : a < b
   ·exact .inr (.inl (.inl h1))
   ·refine .inr (.inr (.inl ?_))
    have h2 : b ≤ a := UInt8.not_lt.1 h1
    exact UInt8.lt_of_le_of_ne h2 (fun e => h e.symm)

theorem strLt_asymm {x y : Str} (h : strLt x y = true) : strLt y x = false := by
 cases h2 : strLt y x with
 | false => rfl
 | true => have := strLt_trans h h2; rw [strLt_irrefl] at this; cases this

/-! ### Lists that rise -/
def Asc (l : List Str) : Prop := l.Pairwise fun a b => strLt a b = true

theorem asc_ext : ∀ {a b : List Str}, Asc a → Asc b → (∀ x, x ∈ a ↔ x ∈ b) → a = b
 | [], [], _, _, _ => rfl
 | [], y :: b, _, _, h => by have := (h y).2 (by simp); simp at this
 | x :: a, [], _, _, h => by have := (h x).1 (by simp); simp at this
 | x :: a, y :: b, ha, hb, h => by
  have ha' := List.pairwise_cons.1 ha
  have hb' := List.pairwise_cons.1 hb
  have e : x = y := by
   rcases List.mem_cons.1 ((h x).1 (by simp)) with e | e
   ·exact e
   ·rcases List.mem_cons.1 ((h y).2 (by simp)) with e2 | e2
    ·exact e2.symm
    ·have h1 := hb'.1 x e
     have h2 := ha'.1 y e2
     rw [strLt_asymm h1] at h2; cases h2
  subst e
  congr 1
  refine asc_ext ha'.2 hb'.2 fun z => ?_
  constructor
  ·intro hz
   rcases List.mem_cons.1 ((h z).1 (by simp [hz])) with e | e
   ·subst e; have := ha'.1 z hz; rw [strLt_irrefl] at this; cases this
   ·exact e
  ·intro hz
   rcases List.mem_cons.1 ((h z).2 (by simp [hz])) with e | e
   ·subst e; have := hb'.1 z hz; rw [strLt_irrefl] at this; cases this
   ·exact e

theorem Asc.get {l : List Str} (h : Asc l) {i j : Nat} (hij : i < j) (hj : j < l.length) : strLt (l[i]'(by omega)) l[j] = true :=
 List.pairwise_iff_getElem.1 h i j (by omega) hj hij

/-! ### slices.Sort -/
theorem strLt_lt : ∀ a b : Str, strLt a b = decide (a < b)
 | [], [] => by simp [strLt_nil]
 | [], y :: b => by
  show true = _
  simp
 | x :: a, [] => by rw [strLt_nil]; simp
 | x :: a, y :: b => by
  rw [strLt_cons, strLt_lt a b]
  by_cases h : x < y
  ·simp [h, List.cons_lt_cons_iff]
  ·by_cases h2 : x = y
   ·subst h2; simp [List.cons_lt_cons_iff, UInt8.lt_irrefl]
   ·simp [h, h2, List.cons_lt_cons_iff]

theorem le_strLt (a b : Str) : decide (a ≤ b) = !strLt b a := by
 rw [strLt_lt]
 by_cases h : b < a
 ·rw [decide_eq_true h, decide_eq_false (fun h2 => h2 h)]; rfl
 ·rw [decide_eq_false h, decide_eq_true (show a ≤ b from h)]; rfl

end Go.Pu
