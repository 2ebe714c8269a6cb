/- Many requests that were put. -/
import Derived.Test.YtdgbjndkccjijaaUBPuCount1
set_option maxRecDepth 100000
namespace Go.Pu
open Go.Lift

/-- A loop with something that gets less. -/
theorem whileO_less {σ ρ : Type} {body : σ → Option (σ ⊕ ρ)} (st : σ → Prop) (μ : σ → Nat) (Q : ρ → Prop)
  (h : ∀ s, st s → (∃ s', body s = some (.inl s') ∧ st s' ∧ μ s' < μ s) ∨ (∃ r, body s = some (.inr r) ∧ Q r)) (s : σ) (h0 : st s) : ∃ r, whileO body s = some r ∧ Q r := by
 have : ∀ n s, μ s ≤ n → st s → ∃ r, whileO body s = some r ∧ Q r := by
  intro n
  induction n with
  | zero =>
   intro s hn hs
   rcases h s hs with ⟨s', _, _, h3⟩ | ⟨r, h1, h2⟩
   ·omega
   ·exact ⟨r, whileO_end h1, h2⟩
  | succ n ih =>
   intro s hn hs
   rcases h s hs with ⟨s', h1, h2, h3⟩ | ⟨r, h1, h2⟩
   ·obtain ⟨r, h4, h5⟩ := ih s' (by omega) h2
    exact ⟨r, whileO_next h1 h4, h5⟩
   ·exact ⟨r, whileO_end h1, h2⟩
 exact this (μ s) s (Nat.le_refl _) h0

def putL : List (List (List UInt8)) → List UInt8
 | [] => []
 | a :: l => putM a ++ putL l
theorem putL_snoc (l : List (List (List UInt8))) (x : List (List UInt8)) : putL (l ++ [x]) = putL l ++ putM x := by
 induction l with
 | nil => simp [putL]
 | cons y l ih => simp [putL, ih]
/-- Bytes of requests with no arguments. -/
def noneN : List (List (List UInt8)) → Nat
 | [] => 0
 | a :: l => (if a = [] then 4 else 0) + noneN l
theorem noneN_snoc (l : List (List (List UInt8))) (x : List (List UInt8)) : noneN (l ++ [x]) = noneN l + (if x = [] then 4 else 0) := by
 induction l with
 | nil => simp [noneN]
 | cons y l ih => simp [noneN, ih]; omega
theorem putM_nil : (putM []).length = 4 := by
 have : dtext 0 = [48] := by rw [dtext_small (by omega)]; rfl
 simp [putM, putAs, this]
def sizeN : List api.Request → Int
 | [] => 0
 | r :: l => r.Size + sizeN l
theorem sizeN_append (a b : List api.Request) : sizeN (a ++ b) = sizeN a + sizeN b := by
 induction a with
 | nil => simp [sizeN]
 | cons x a ih => simp [sizeN, ih]; omega

/-- All that was put is found, or the stream ends. -/
theorem run_putL (l : api.Limits) (hl : GoodL l) : ∀ (ls : List (List (List UInt8))) (out : List api.Request), PInv (freshP (putL ls) l out) →
  (∃ more, runP (freshP (putL ls) l out) = freshP [] l (out ++ more) ∧ (noneN ls : Int) + sizeN more = ((putL ls).length : Int) ∧ (∀ r ∈ more, 1 ≤ r.Args.length ∧ (r.Args.length : Int) ≤ l.Args ∧ 0 ≤ r.Size) ∧ more.length ≤ ls.length) ∨
  (∃ more e, (e = 5 ∨ e = 6 ∨ e = 7 ∨ e = 16) ∧ runP (freshP (putL ls) l out) = deadP (freshP [] l (out ++ more)) e ∧ more.length ≤ ls.length)
 | [], out, h => by
  left
  refine ⟨[], ?_, rfl, by simp, by simp⟩
  rw [List.append_nil]
  rw [runP_stop]
  ·rfl
  ·rfl
 | a :: ls, out, h => by
  rcases run_put l hl out (putL ls) a h with ⟨h1, h2, h3⟩ | ⟨e, h1, h2, _⟩
  ·have ih := run_putL l hl ls _ h3
   by_cases ha : a = []
   ·rw [if_pos ha] at h2 h3 ih
    rcases ih with ⟨more, g1, g2, g3, g4⟩ | ⟨more, e, g1, g2, g3⟩
    ·left
     refine ⟨more, h2.trans g1, ?_, g3, by simp; omega⟩
     simp only [noneN, if_pos ha, putL, List.length_append]
     rw [ha, putM_nil]
     omega
    ·right
     exact ⟨more, e, g1, h2.trans g2, by simp; omega⟩
   ·rw [if_neg ha] at h2 h3 ih
    rcases ih with ⟨more, g1, g2, g3, g4⟩ | ⟨more, e, g1, g2, g3⟩
    ·left
     refine ⟨({ Args := a, Size := ((putM a).length : Int) } : api.Request) :: more, h2.trans (by rw [g1]; simp), ?_, ?_, by simp; omega⟩
     ·simp only [noneN, if_neg ha, putL, List.length_append, sizeN]
      omega
     ·intro r hr
      rcases List.mem_cons.1 hr with rfl | hr
      ·refine ⟨?_, h1, by simp⟩
       cases a with
       | nil => exact absurd rfl ha
       | cons x a => simp
      ·exact g3 r hr
    ·right
     refine ⟨({ Args := a, Size := ((putM a).length : Int) } : api.Request) :: more, e, g1, h2.trans (by rw [g2]; simp), by simp; omega⟩
  ·right
   exact ⟨[], e, h1, by rw [List.append_nil]; exact h2, by simp⟩

end Go.Pu
