import Derived.Test.YtngliepchpkiiaaDoorTKPuBase
set_option maxHeartbeats 0
set_option maxRecDepth 100000
namespace Go.Pu
open Go.Lift

abbrev Str := List UInt8

/-- A loop with something that gets less. -/
theorem whileO_meas {σ ρ : Type} {body : σ → Option (σ ⊕ ρ)} (st : σ → Prop) (μ : σ → Nat) (Q : ρ → Prop)
  (h : ∀ s, st s → (∃ s', body s = some (.inl s') ∧ st s' ∧ μ s' < μ s) ∨ (∃ r, body s = some (.inr r) ∧ Q r)) (s : σ) (h0 : st s) : ∃ r, whileO body s = some r ∧ Q r := by
 have : ∀ n s, μ s ≤ n → st s → ∃ r, whileO body s = some r ∧ Q r := by
  intro n
  induction n with
  | zero =>
   intro s hn hs
   rcases h s hs with ⟨s', _, _, h3⟩ | ⟨r, h1, h2⟩
   ·omega
   ·exact ⟨r, whileO_end h1, h2⟩
  | succ n ih =>
   intro s hn hs
   rcases h s hs with ⟨s', h1, h2, h3⟩ | ⟨r, h1, h2⟩
   ·obtain ⟨r, h4, h5⟩ := ih s' (by omega) h2
    exact ⟨r, whileO_next h1 h4, h5⟩
   ·exact ⟨r, whileO_end h1, h2⟩
 exact this (μ s) s (Nat.le_refl _) h0

/-! ### Lists that rise -/
def Asc (l : List Str) : Prop := l.Pairwise fun a b => strLt a b = true

theorem Asc.get {l : List Str} (h : Asc l) {i j : Nat} (hij : i < j) (hj : j < l.length) : strLt (l[i]'(by omega)) l[j] = true :=
 List.pairwise_iff_getElem.1 h i j (by omega) hj hij

end Go.Pu
