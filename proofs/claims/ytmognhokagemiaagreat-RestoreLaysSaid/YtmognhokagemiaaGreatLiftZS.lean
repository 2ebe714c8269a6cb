/- Lift, part ZS: slices.Sort over a vector of one's own, by the shelf's contract. -/
import Derived.Test.YtmognhokagemiaaGreatLiftZ
import Derived.Test.YtmognhokagemiaaGreatLiftV
import Derived.Sort.EncStr
import Derived.Sort.Row
import Derived.Sort.Grow
namespace Go.Lift
open Go.RowKit

theorem putCells_size {α : Type} [Inhabited α] (enc : α → Value) (off : Nat) (d : Array α) (c : Array Value) : (Go.Sort.putCells enc off d c).size = c.size := by simp [Go.Sort.putCells]

theorem putCells_getD {α : Type} [Inhabited α] (enc : α → Value) (d : Array α) (c : Array Value) {j : Nat} (hj : j < c.size) : (Go.Sort.putCells enc 0 d c).getD j undef = if j < d.size then enc d[j]! else c.getD j undef := by
  have h1 : j < (Go.Sort.putCells enc 0 d c).size := by rw [putCells_size]; exact hj
  simp only [Array.getD_eq_getD_getElem?, Array.getElem?_eq_getElem h1, Array.getElem?_eq_getElem hj, Option.getD_some]
  simp [Go.Sort.putCells]

/-- A row put anew, draws, and blocks behind: what lies below is as if the row had been set. -/
theorem below_put {α : Type} [Inhabited α] {w : World} {b m : Nat} {arr : Array Value} {enc : α → Value} {d : Array α} {os : Array Obj} (hb : Blk w b arr) :
    Below (w.setRow b (Go.Sort.putCells enc 0 d arr)).heap.size (w.setRow b (Go.Sort.putCells enc 0 d arr)) (Go.Sort.grow (Go.Sort.putRow enc (Go.Sort.ahead w m) b 0 d) os) := by
  obtain ⟨T, fz, h, hf⟩ := hb
  have hlt : b < w.heap.size := (Array.getElem?_eq_some_iff.1 h).1
  have hsz : (w.setRow b (Go.Sort.putCells enc 0 d arr)).heap.size = w.heap.size := by simp
  refine ⟨rfl, rfl, rfl, ?_, fun k hk => ?_⟩
  · rw [hsz]
    simp [Go.Sort.grow, Go.Sort.putRow, Go.Sort.mapBlock, Go.Sort.ahead]
  · rw [hsz] at hk
    have e1 : (Go.Sort.grow (Go.Sort.putRow enc (Go.Sort.ahead w m) b 0 d) os).heap[k]? = (w.heap.modify b (Go.Sort.onCells (Go.Sort.putCells enc 0 d)))[k]? := by
      simp only [Go.Sort.grow, Go.Sort.putRow, Go.Sort.mapBlock, Go.Sort.ahead]
      exact Array.getElem?_append_left (by simpa using hk)
    rw [e1, Array.getElem?_modify]
    by_cases e : b = k
    · subst e
      rw [if_pos rfl, h, setRow_heap w b arr _ T fz h]
      rfl
    · rw [if_neg e, setRow_other w b k _ (fun h => e h.symm)]

end Go.Lift
