import Derived.Test.YtlidepjlhmaldaaDPPuDisk2
import Derived.Test.YtlidepjlhmaldaaDPPuStrL
set_option maxHeartbeats 0
set_option maxRecDepth 100000
namespace Go.Pu
open Go.Lift

/-- The first n places' files that are the first of their names. -/
def fsts (l : List api.File) (n : Nat) : List api.File := ((List.range n).filter fun i : Nat => decide (fx l (ix l (i : Int)).Name = (i : Int))).map fun i : Nat => ix l (i : Int)

theorem fsts_succ (l : List api.File) (n : Nat) : fsts l (n + 1) = fsts l n ++ if fx l (ix l (n : Int)).Name = (n : Int) then [ix l (n : Int)] else [] := by
 unfold fsts
 rw [List.range_succ, List.filter_append, List.map_append]
 congr 1
 by_cases h : fx l (ix l (n : Int)).Name = (n : Int) <;> simp [h]

theorem fsts_len (l : List api.File) (n : Nat) : (fsts l n).length ≤ n := by
 unfold fsts
 rw [List.length_map]
 exact Nat.le_trans (List.length_filter_le _ _) (by simp)

/-- All files that count. -/
def fstA (l : List api.File) : List api.File := fsts l l.length

theorem fstA_mem {l : List api.File} {x : api.File} (h : x ∈ fstA l) : ∃ i : Nat, i < l.length ∧ fx l x.Name = (i : Int) ∧ ix l (i : Int) = x := by
 obtain ⟨i, hi, rfl⟩ := List.mem_map.1 h
 obtain ⟨h1, h2⟩ := List.mem_filter.1 hi
 exact ⟨i, List.mem_range.1 h1, of_decide_eq_true h2, rfl⟩

theorem fstA_nodup (l : List api.File) : ((fstA l).map (·.Name)).Nodup := by
 unfold fstA fsts
 rw [List.map_map]
 refine List.pairwise_map.2 ?_
 have hr : (List.range l.length).Pairwise (· ≠ ·) := List.nodup_range
 have h2 := (List.Pairwise.sublist (List.filter_sublist (p := fun i : Nat => decide (fx l (ix l (i : Int)).Name = (i : Int)))) hr)
 refine h2.imp_of_mem fun {a b} ha hb hab e => ?_
 have e1 := of_decide_eq_true (List.mem_filter.1 ha).2
 have e2 := of_decide_eq_true (List.mem_filter.1 hb).2
 have e : (ix l (a : Int)).Name = (ix l (b : Int)).Name := e
 rw [e, e2] at e1
 exact hab (by omega)

/-- In a list whose names are each there once, what is found is what is in. -/
theorem look_nodup {l : List api.File} (hn : (l.map (·.Name)).Nodup) {x : api.File} (hx : x ∈ l) : look l x.Name = some x := by
 obtain ⟨a, b, rfl⟩ := List.append_of_mem hx
 refine look_mid rfl fun y hy e => ?_
 rw [List.map_append, List.nodup_append] at hn
 exact hn.2.2 _ (List.mem_map_of_mem hy) _ (by simp) e

theorem look_some {l : List api.File} {k : List UInt8} {x : api.File} (h : look l k = some x) : x ∈ l ∧ x.Name = k :=
 ⟨List.mem_of_find?_eq_some h, isN_iff.1 (List.find?_some h)⟩

theorem fstA_has {l : List api.File} {k : List UInt8} {x : api.File} (h : look l k = some x) : x ∈ fstA l := by
 rcases fx_cases l k with ⟨_, h2⟩ | ⟨a, y, b, rfl, h2, h3, h4⟩
 ·rw [look_none h2] at h; cases h
 ·rw [look_mid h3 h4] at h
  obtain rfl := Option.some.inj h
  refine List.mem_map.2 ⟨a.length, List.mem_filter.2 ⟨List.mem_range.2 (by simp), ?_⟩, ?_⟩
  ·rw [ix_mid rfl, h3]
   exact decide_eq_true h2
  ·exact ix_mid rfl

theorem look_fstA (l : List api.File) (g : api.File → api.File) (hg : ∀ x, (g x).Name = x.Name) (k : List UInt8) : look ((fstA l).map g) k = (look l k).map g := by
 have hn : (((fstA l).map g).map (·.Name)).Nodup := by
  rw [List.map_map, show ((·.Name) ∘ g) = (fun x : api.File => x.Name) from funext hg]
  exact fstA_nodup l
 cases h : look l k with
 | some x =>
  have h1 := look_nodup hn (List.mem_map_of_mem (f := g) (fstA_has h))
  rw [hg, (look_some h).2] at h1
  exact h1
 | none =>
  refine look_none fun y hy e => ?_
  obtain ⟨z, hz, rfl⟩ := List.mem_map.1 hy
  obtain ⟨i, hi, _, rfl⟩ := fstA_mem hz
  rw [hg] at e
  have := List.find?_eq_none.1 h (ix l (i : Int)) (by rw [ix_get hi]; exact List.getElem_mem hi)
  exact this (isN_iff.2 e)

/-- Names that are each there once: all files count. -/
theorem fstA_self {l : List api.File} (hn : (l.map (·.Name)).Nodup) : fstA l = l := by
 have hall : ∀ i, i < l.length → fx l (ix l (i : Int)).Name = (i : Int) := fun i hi => by
  rw [ix_get hi]
  rcases fx_cases l l[i].Name with ⟨_, h2⟩ | ⟨a, y, b, e, h2, h3, h4⟩
  ·exact absurd rfl (h2 l[i] (List.getElem_mem hi))
  ·rw [h2]
   have hy : l[a.length]? = some y := by rw [e]; simp
   obtain ⟨ha, hy⟩ := List.getElem?_eq_some_iff.1 hy
   have : a.length = i := by
    refine Classical.byContradiction fun hne => ?_
    have hp := List.pairwise_iff_getElem.1 (List.pairwise_map.1 hn)
    rcases Nat.lt_or_gt_of_ne hne with hlt | hlt
    ·exact hp a.length i ha hi hlt (by rw [hy, h3])
    ·exact hp i a.length hi ha hlt (by rw [hy, h3])
   omega
 unfold fstA fsts
 rw [List.filter_eq_self.2 fun i hi => decide_eq_true (hall i (List.mem_range.1 hi))]
 refine List.ext_getElem (by simp) fun i h1 h2 => ?_
 rw [List.getElem_map, List.getElem_range, ix_get h2]

end Go.Pu
