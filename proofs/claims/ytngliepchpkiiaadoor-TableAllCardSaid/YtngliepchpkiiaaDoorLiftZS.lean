/- Lift, part ZS: slices.Sort over a vector of one's own, by the shelf's contract. -/
import Derived.Test.YtngliepchpkiiaaDoorLiftZ
import Derived.Test.YtngliepchpkiiaaDoorLiftV
import Derived.Sort.EncStr
import Derived.Sort.Row
import Derived.Sort.Grow
namespace Go.Lift
open Go.RowKit

theorem putCells_size {α : Type} [Inhabited α] (enc : α → Value) (off : Nat) (d : Array α) (c : Array Value) : (Go.Sort.putCells enc off d c).size = c.size := by simp [Go.Sort.putCells]

theorem putCells_getD {α : Type} [Inhabited α] (enc : α → Value) (d : Array α) (c : Array Value) {j : Nat} (hj : j < c.size) : (Go.Sort.putCells enc 0 d c).getD j undef = if j < d.size then enc d[j]! else c.getD j undef := by
  have h1 : j < (Go.Sort.putCells enc 0 d c).size := by rw [putCells_size]; exact hj
  simp only [Array.getD_eq_getD_getElem?, Array.getElem?_eq_getElem h1, Array.getElem?_eq_getElem hj, Option.getD_some]
  simp [Go.Sort.putCells]

/-- A row put anew, draws, and blocks behind: what lies below is as if the row had been set. -/
theorem below_put {α : Type} [Inhabited α] {w : World} {b m : Nat} {arr : Array Value} {enc : α → Value} {d : Array α} {os : Array Obj} (hb : Blk w b arr) :
    Below (w.setRow b (Go.Sort.putCells enc 0 d arr)).heap.size (w.setRow b (Go.Sort.putCells enc 0 d arr)) (Go.Sort.grow (Go.Sort.putRow enc (Go.Sort.ahead w m) b 0 d) os) := by
  obtain ⟨T, fz, h, hf⟩ := hb
  have hlt : b < w.heap.size := (Array.getElem?_eq_some_iff.1 h).1
  have hsz : (w.setRow b (Go.Sort.putCells enc 0 d arr)).heap.size = w.heap.size := by simp
  refine ⟨rfl, rfl, rfl, ?_, fun k hk => ?_⟩
  · rw [hsz]
    simp [Go.Sort.grow, Go.Sort.putRow, Go.Sort.mapBlock, Go.Sort.ahead]
  · rw [hsz] at hk
    have e1 : (Go.Sort.grow (Go.Sort.putRow enc (Go.Sort.ahead w m) b 0 d) os).heap[k]? = (w.heap.modify b (Go.Sort.onCells (Go.Sort.putCells enc 0 d)))[k]? := by
      simp only [Go.Sort.grow, Go.Sort.putRow, Go.Sort.mapBlock, Go.Sort.ahead]
      exact Array.getElem?_append_left (by simpa using hk)
    rw [e1, Array.getElem?_modify]
    by_cases e : b = k
    · subst e
      rw [if_pos rfl, h, setRow_heap w b arr _ T fz h]
      rfl
    · rw [if_neg e, setRow_other w b k _ (fun h => e h.symm)]

theorem spec_sortS {P : Program} {f : FuncId}
    (hS : ∀ (blk off cap : Nat) (ss : List (List UInt8)) (w : World), Go.Sort.Holds Go.Proofs.encStr w blk off ss.toArray → blk < w.heap.size → ss.length < 4611686018427387904 →
      Calls P f #[.slice (some ⟨blk, off, Option.none⟩) ss.length cap] w fun e w' => e = .returned (.tuple #[]) ∧ ∃ n os, w' = Go.Sort.grow (Go.Sort.putRow Go.Proofs.encStr (Go.Sort.ahead w n) blk off (ss.mergeSort fun x y => decide (x ≤ y)).toArray) os)
    (hN : ∀ (p : Option Addr) (cap : Nat) (w : World), Calls P f #[.slice p 0 cap] w fun e w' => e = .returned (.tuple #[]) ∧ w' = w)
    {xs : List (List UInt8)} (hl : xs.length < 4611686018427387904) (o : Nat) :
    Spec P f [.vec o] [(o, .vec 1 (xs.map AV.str))] (fun v H => v = .tup [] ∧ H = [(o, .vec 1 ((xs.mergeSort fun x y => decide (x ≤ y)).map AV.str))]) := by
  intro E F g w vs hsz hrd hrel
  obtain ⟨v, rfl⟩ := arr1 (by simpa using hsz)
  have hv : Reads g w v (.vec o) := by have := hrd 0 (by simp); simpa using this
  obtain ⟨A, b, nn, cc, rfl, hp, hn, hnc, hA⟩ := vec_inv (q := 0) (st := [(o, .vec 1 (xs.map AV.str))]) hrel rfl hv
  rw [List.length_map] at hn
  have hrel' : Rel E ((o, .vec 1 (xs.map AV.str)) :: F) g w := hrel
  have hok := hrel'.ok o _ (List.mem_cons_self ..)
  rw [hp] at hok
  obtain ⟨_, _, _, hcm, hz0, he, hok⟩ := hok
  have hms : (xs.mergeSort fun x y => decide (x ≤ y)).length = xs.length := List.length_mergeSort xs
  by_cases h0 : nn = 0
  · have hx : xs = [] := List.eq_nil_of_length_eq_zero (by omega)
    subst hx h0
    refine (hN A cc w).mono ?_
    rintro e w' ⟨rfl, rfl⟩
    have e0 : (([] : List (List UInt8)).mergeSort fun x y => decide (x ≤ y)) = [] := List.eq_nil_of_length_eq_zero (by rw [hms]; rfl)
    rw [e0]
    exact ⟨_, .tup [], _, g, rfl, ⟨rfl, rfl⟩, .tup (as := []) rfl (fun j hj => absurd hj (Nat.not_lt_zero _)), hrel, GLe.refl _ _⟩
  · have h0c : 0 < cc := by omega
    have hA' : A = some ⟨b, 0, Option.none⟩ := hA.resolve_right (by omega)
    subst hA'
    obtain ⟨hB, arr, hblk, hs, hrdc⟩ := hok h0c
    have hcell : ∀ j, (hj : j < xs.length) → arr.getD j undef = Go.Proofs.encStr xs[j] := fun j hj => by
      have := hrdc j 0 (by rw [List.length_map]; exact hj) (by omega)
      rw [Nat.mul_one, Nat.add_zero] at this
      have e : ((xs.map AV.str).getD j .un).cells.getD 0 .un = .str xs[j] := by simp [List.getD, List.getElem?_eq_getElem hj, AV.cells]
      rw [e] at this
      generalize arr.getD j undef = u at this
      cases this with
      | str s => rfl
    have hH : Go.Sort.Holds Go.Proofs.encStr w b 0 xs.toArray := fun j hj => by
      have hj' : j < xs.length := by simpa using hj
      have hlt : 0 + j < arr.size := by rw [hs]; omega
      refine ⟨?_, hblk.frozen hlt⟩
      rw [hblk.cell, Array.getElem?_eq_getElem hlt]
      have := hcell j hj'
      rw [Array.getD_eq_getD_getElem?, Array.getElem?_eq_getElem (by omega : j < arr.size)] at this
      simp only [Option.getD_some] at this
      simp only [Nat.zero_add]
      rw [this]
      simp [hj']
    rw [hn]
    refine (hS b 0 cc xs w hH hblk.lt hl).mono ?_
    rintro e w' ⟨rfl, m, os, rfl⟩
    have hps := putCells_size Go.Proofs.encStr 0 (xs.mergeSort fun x y => decide (x ≤ y)).toArray arr
    obtain ⟨h3, h4⟩ := rel_rewrite hrel' hp h0c hblk hB hs hps (ys := (xs.mergeSort fun x y => decide (x ≤ y)).map AV.str) (by rw [List.length_map, List.length_map, hms]) (fun y hy => by obtain ⟨x, _, rfl⟩ := List.mem_map.1 hy; rfl) (fun j k hj hk => by
      obtain rfl : k = 0 := by omega
      rw [List.length_map] at hj
      rw [Nat.mul_one, Nat.add_zero, putCells_getD _ _ _ (by rw [hs]; omega), if_pos (by simpa using hj)]
      have e : ((List.map AV.str (xs.mergeSort fun x y => decide (x ≤ y))).getD j .un).cells.getD 0 .un = .str (xs.mergeSort fun x y => decide (x ≤ y))[j] := by simp [List.getD, List.getElem?_eq_getElem hj, AV.cells]
      rw [e]
      have e2 : (xs.mergeSort fun x y => decide (x ≤ y)).toArray[j]! = (xs.mergeSort fun x y => decide (x ≤ y))[j] := by
        rw [getElem!_pos _ j (by simpa using hj)]
        simp
      rw [e2]
      exact .str _)
    have hbl := below_put (enc := Go.Proofs.encStr) (d := (xs.mergeSort fun x y => decide (x ≤ y)).toArray) (m := m) (os := os) hblk
    obtain ⟨h5, h6⟩ := h3.below hbl
    exact ⟨_, .tup [], _, g, rfl, ⟨rfl, rfl⟩, .tup (as := []) rfl (fun j hj => absurd hj (Nat.not_lt_zero _)), h5, h4.trans h6⟩

end Go.Lift
