/- Lift, part V: what owns many blocks, turned by a call. -/
import Derived.Test.YtngliepchpkiiaaDoorLiftT
namespace Go.Lift
open Go.RowKit

theorem arr1 {vs : Array Value} (h : vs.size = 1) : ∃ v, vs = #[v] := by
  obtain ⟨l⟩ := vs
  match l, h with
  | [v], _ => exact ⟨v, rfl⟩
theorem arr2 {vs : Array Value} (h : vs.size = 2) : ∃ v u, vs = #[v, u] := by
  obtain ⟨l⟩ := vs
  match l, h with
  | [v, u], _ => exact ⟨v, u, rfl⟩
theorem Turned.refl {w : World} {S : Nat → Prop} (h : ∀ k, S k → k < w.heap.size) : Turned w w S S :=
  ⟨rfl, rfl, rfl, Nat.le_refl _, fun _ _ _ => rfl, fun _ hk => .inl hk, h⟩

theorem Turned.alloc {w w' : World} {S S' : Nat → Prop} (h : Turned w w' S S') (ob : Obj) : Turned w (w'.alloc ob) S S' := by
  have hs : w'.heap.size < (w'.alloc ob).heap.size := by simp
  exact ⟨h.os, h.tape, h.output, Nat.le_trans h.size (Nat.le_of_lt hs), fun k hk hS => (Below.heap_alloc w' ob k (Nat.lt_of_lt_of_le hk h.size)).trans (h.old k hk hS), h.new, fun k hk => Nat.lt_trans (h.lt k hk) hs⟩

end Go.Lift
