/- The pure laws UnitPuts and UnitTakes. -/
import Derived.Test.YtdgbjndkccjijaaUBPuUnit4
set_option maxRecDepth 100000
namespace Go.Pu
open Go.Lift

theorem putU_self (x : Bool) : (x == x) = true := by cases x <;> rfl

theorem UnitPuts_pure (a b : api.Unit) (ha : FitsC a.Cmds) (hb : FitsC b.Cmds) : mewslaw15.UnitPuts a b = some true := by
 unfold mewslaw15.UnitPuts
 obtain ⟨x, hf, hf2⟩ := Far_eq [a, b] (by simp) (by simp [ha, hb])
 rw [hf, alive15, Option.bind_some]
 cases x with
 | true => rfl
 | false =>
  obtain ⟨f1, f2⟩ := hf2 rfl
  simp only [wtL] at f2
  rw [if_neg (by simp), PutU_eq a (by omega), rPutU_eq a (by omega), Option.bind_some, Option.bind_some, if_pos rfl, if_pos rfl,
   Same_eq a b ha.1 (fun c hc => (ha.2 c hc).1), rSame_eq a b ha.1 (fun c hc => (ha.2 c hc).1), Option.bind_some, Option.bind_some, if_pos (putU_self _),
   Same_eq a a ha.1 (fun c hc => (ha.2 c hc).1), Option.bind_some, decide_eq_true rfl]
  rfl

theorem UnitTakes_pure (s : List UInt8) : mewslaw15.UnitTakes s = some true := by
 unfold mewslaw15.UnitTakes
 rw [alive15]
 by_cases h : 5000 < s.length
 ·rw [if_pos (by omega)]; rfl
 ·rw [if_neg (by omega), Take_eq s (by omega), rTake_eq s (by omega), AllU_eq s (by omega), rAllU_eq s (by omega), Option.bind_some, Option.bind_some, Option.bind_some, Option.bind_some]
  have hft : FitsC (takeM s).1.Cmds := fits_of_wt (by have := take_wt s (by omega); omega)
  have hfa := (allN_ok (s.length + 1) s (by omega))
  have hfa1 : (allM s).1.length ≤ s.length := hfa.2.2.2
  have hfa2 : ∀ u ∈ (allM s).1, FitsC u.Cmds := fun u hu => fits_of_wt (by have := (hfa.2.2.1 u hu).2; omega)
  generalize allM s = A at *
  generalize takeM s = T at *
  clear hfa
  rw [rSame_eq _ _ hft.1 (fun c hc => (hft.2 c hc).1), Option.bind_some, decide_eq_true rfl, if_pos rfl, if_pos rfl, if_pos rfl,
   SameAll_self A.1 (by omega) hfa2, Option.bind_some, if_pos rfl, if_pos rfl]
  rfl

theorem fits_wf {u : api.Unit} (h : api.Unit.wf u) : FitsC u.Cmds := by
 obtain ⟨⟨h1, h2⟩, _⟩ := h
 refine ⟨by omega, fun c hc => ?_⟩
 obtain ⟨h3, h4⟩ := h2 c hc
 exact ⟨by omega, fun s hs => by have := h4 s hs; omega⟩

end Go.Pu

namespace Go.Pu.Pure
open Go.Lift Go.Pu
theorem UnitPuts {a0 a1 : api.Unit} (h0 : api.Unit.wf a0) (h1 : api.Unit.wf a1) : mewslaw15.UnitPuts a0 a1 = some true := UnitPuts_pure a0 a1 (fits_wf h0) (fits_wf h1)
theorem UnitTakes {a0 : List UInt8} (h0 : a0.length ≤ 140737488351232) : mewslaw15.UnitTakes a0 = some true := UnitTakes_pure a0
end Go.Pu.Pure
