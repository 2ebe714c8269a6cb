import Derived.Test.YtngliepchpkiiaaDoorTAPuStrL0
import Derived.Test.YtngliepchpkiiaaDoorTAP
set_option maxHeartbeats 0
set_option maxRecDepth 100000
namespace Go.Pu
open Go.Lift

theorem Sort_eq {x l : List Str} (hx : x.Nodup) (ha : Asc l) (hm : ∀ y, y ∈ x ↔ y ∈ l) (hl : x.length < 1000000) : slices.Sort_string x = some l := by
 unfold slices.Sort_string
 rw [need_eq (by omega)]
 have hf : (fun a b : Str => decide (a ≤ b)) = fun a b => !strLt b a := by funext a b; exact le_strLt a b
 rw [hf]
 have hp := List.mergeSort_perm x fun a b => !strLt b a
 have hs := List.pairwise_mergeSort (le := fun a b : Str => !strLt b a) (fun a b c h1 h2 => by
  simp only [Bool.not_eq_true'] at *
  rcases strLt_tri a b with h | h | h
  ·subst h; exact h2
  ·rcases strLt_tri b c with h' | h' | h'
   ·subst h'; exact strLt_asymm h
   ·exact strLt_asymm (strLt_trans h h')
   ·rw [h2] at h'; cases h'
  ·rw [h1] at h; cases h) (fun a b => by
  simp only [Bool.or_eq_true, Bool.not_eq_true']
  rcases strLt_tri a b with h | h | h
  ·subst h; exact .inl (strLt_irrefl _)
  ·exact .inl (strLt_asymm h)
  ·exact .inr (strLt_asymm h)) x
 have hn : (x.mergeSort fun a b => !strLt b a).Nodup := hp.nodup_iff.2 hx
 have hasc : Asc (x.mergeSort fun a b => !strLt b a) := by
  have := hs.and hn
  refine this.imp fun {a b} h => ?_
  obtain ⟨h1, h2⟩ := h
  simp only [Bool.not_eq_true'] at h1
  rcases strLt_tri a b with h | h | h
  ·exact absurd h h2
  ·exact h
  ·rw [h1] at h; cases h
 rw [asc_ext hasc ha fun y => (hp.mem_iff).trans (hm y)]

end Go.Pu
