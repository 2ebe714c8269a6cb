/- Lift, part R: what is told by rounds that are counted holds of rounds that are not. -/
import Derived.Test.YtngliepchpkiiaaDoorLiftQ
namespace Go.Lift

/-- What the one tells, the other one tells. -/
def OLe {α : Type} (a b : Option α) : Prop := ∀ r, a = some r → b = some r

theorem OLe.refl {α : Type} (a : Option α) : OLe a a := fun _ h => h
theorem OLe.bind {α β : Type} {a a' : Option α} {f f' : α → Option β} (h : OLe a a') (hf : ∀ x, OLe (f x) (f' x)) : OLe (a.bind f) (a'.bind f') := by
  intro r hr
  obtain ⟨x, h1, h2⟩ := Option.bind_eq_some_iff.1 hr
  exact Option.bind_eq_some_iff.2 ⟨x, h x h1, hf x r h2⟩
theorem OLe.need {α : Type} {c : Prop} [Decidable c] {a a' : Option α} (h : OLe a a') : OLe (need c a) (need c a') := by
  intro r hr
  obtain ⟨h1, h2⟩ := need_of hr
  rw [need_eq h1]
  exact h r h2
theorem OLe.ite {α : Type} {c : Prop} [Decidable c] {a a' b b' : Option α} (h : OLe a a') (h2 : OLe b b') : OLe (if c then a else b) (if c then a' else b') := by
  by_cases hc : c
  · rw [if_pos hc, if_pos hc]; exact h
  · rw [if_neg hc, if_neg hc]; exact h2
theorem OLe.letO {α β : Type} {x : α} {f f' : α → Option β} (h : ∀ x, OLe (f x) (f' x)) : OLe (letO x f) (letO x f') := h x
theorem OLe.onSum {α β τ : Type} {s : α ⊕ β} {f f' : α → Option τ} {g g' : β → Option τ} (h : ∀ x, OLe (f x) (f' x)) (h2 : ∀ x, OLe (g x) (g' x)) : OLe (onSum s f g) (onSum s f' g') := by
  cases s with
  | inl x => exact h x
  | inr x => exact h2 x
theorem OLe.iter {σ ρ : Type} {B B' : σ → Option (σ ⊕ ρ)} (h : ∀ s, OLe (B s) (B' s)) (n : Nat) (s : σ) : OLe (iterO B n s) (whileO B' s) := by
  intro r hr
  refine whileO_iff.2 ⟨n, ?_⟩
  induction n generalizing s with
  | zero => cases hr
  | succ n ih =>
    simp only [iterO] at hr ⊢
    cases hb : B s with
    | none => rw [hb] at hr; cases hr
    | some x =>
      rw [hb] at hr
      rw [h s x hb]
      cases x with
      | inl s' => exact ih s' hr
      | inr r' => exact hr

end Go.Lift
