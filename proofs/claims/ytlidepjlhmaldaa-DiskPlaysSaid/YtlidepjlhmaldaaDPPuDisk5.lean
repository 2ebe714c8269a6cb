import Derived.Test.YtlidepjlhmaldaaDPPuDisk4
import Derived.Test.YtlidepjlhmaldaaDPPuApart
set_option maxHeartbeats 0
set_option maxRecDepth 100000
namespace Go.Pu
open Go.Lift

def sfF (f : api.File) : api.File := { f with Synced := (clampN f.Synced f.Data.length : Int) }

theorem counting_loop (d : api.Disk) (hd : d.Files.length < 1000000) : disk.counting.loop0 d ⟨0, []⟩ = some ((fstA d.Files).map sfF) := by
 unfold disk.counting.loop0
 refine whileO_knownE ⟨0, []⟩ (fun i => (⟨(i : Int), (fsts d.Files i).map sfF⟩ : disk.counting.S0)) d.Files.length (fun i hi => ?_) ?_
 ·unfold disk.counting.body0
  show (if (i : Int) < (d.Files.length : Int) then _ else _) = _
  rw [if_pos (by omega)]
  show ((need (InB (i : Int) d.Files.length) ((disk.find d (ix d.Files (i : Int)).Name).bind _)).bind _) = _
  have hw : IntKind.wrap .i64 ((i : Int) + 1) = ((i + 1 : Nat) : Int) := by rw [i64w (by omega) (by omega)]; omega
  rw [need_eq ⟨by omega, by omega⟩, find_eq (by omega), Option.bind_some]
  show _ = some (Sum.inl (⟨((i + 1 : Nat) : Int), (fsts d.Files (i + 1)).map sfF⟩ : disk.counting.S0))
  rw [fsts_succ]
  have hlen := fsts_len d.Files i
  by_cases hf : fx d.Files (ix d.Files (i : Int)).Name = (i : Int)
  ·rw [if_pos hf, if_pos (show fx d.Files (ix d.Files (i : Int)).Name = (i : Int) from hf)]
   simp only []
   generalize ix d.Files (i : Int) = f
   rw [safe_eq, Option.bind_some]
   show ((need ((((fsts d.Files i).map sfF).length + 1) * 40 ≤ 140737488355328) (some ((fsts d.Files i).map sfF ++ [sfF f]))).bind _) = _
   rw [need_eq (by rw [List.length_map]; omega), Option.bind_some]
   show some (Sum.inl (⟨IntKind.wrap .i64 ((i : Int) + 1), _⟩ : disk.counting.S0)) = _
   rw [hw, List.map_append]
   rfl
  ·rw [if_neg hf, if_neg (show ¬ fx d.Files (ix d.Files (i : Int)).Name = (i : Int) from hf), List.append_nil, Option.bind_some]
   show some (Sum.inl (⟨IntKind.wrap .i64 ((i : Int) + 1), _⟩ : disk.counting.S0)) = _
   rw [hw]
 ·unfold disk.counting.body0
  show (if (d.Files.length : Int) < (d.Files.length : Int) then _ else _) = _
  rw [if_neg (by omega)]
  rfl

theorem counting_ex (d : api.Disk) (hd : d.Files.length < 1000000) : ∃ r, disk.counting d = some r ∧ r.length ≤ d.Files.length := by
 have hl : ((fstA d.Files).map sfF).length ≤ d.Files.length := by
  rw [List.length_map]
  exact fsts_len _ _
 have hn : (((fstA d.Files).map sfF).map fun y => y.Name).Nodup := by
  rw [List.map_map]
  exact fstA_nodup d.Files
 refine ⟨((fstA d.Files).map sfF).mergeSort fun a b => !strLt b.Name a.Name, ?_, by rw [List.length_mergeSort]; exact hl⟩
 unfold disk.counting
 rw [counting_loop d hd, Option.bind_some]
 unfold slices.SortFunc_api_File
 rw [need_eq ⟨by omega, hn⟩]
 rfl

theorem eqFile_self (a : List api.File) (h : a.length ≤ 1000000000000000) : slices.Equal_api_File a a = some true := by
 unfold slices.Equal_api_File
 rw [if_pos rfl]
 have : slices.Equal_api_File.loop0 a a ⟨0⟩ = some (.inl ()) := by
  unfold slices.Equal_api_File.loop0
  refine whileO_knownE ⟨0⟩ (fun i => (⟨(i : Int)⟩ : slices.Equal_api_File.S0)) a.length (fun i hi => ?_) ?_
  ·unfold slices.Equal_api_File.body0
   show (if (i : Int) < (a.length : Int) then _ else _) = _
   rw [if_pos (by omega), need_eq ⟨by show (0 : Int) ≤ (i : Int); omega, by show (i : Int) < (a.length : Int); omega⟩, need_eq ⟨by show (0 : Int) ≤ (i : Int); omega, by show (i : Int) < (a.length : Int); omega⟩, if_pos rfl]
   show some (Sum.inl (⟨IntKind.wrap .i64 ((i : Int) + 1)⟩ : slices.Equal_api_File.S0)) = _
   rw [i64w (by omega) (by omega), show (i : Int) + 1 = ((i + 1 : Nat) : Int) by omega]
  ·unfold slices.Equal_api_File.body0
   exact if_neg (by show ¬ (a.length : Int) < (a.length : Int); omega)
 rw [this]
 rfl

theorem Same_selfD (d : api.Disk) (hd : d.Files.length < 1000000) (hf : d.Faults = []) : disk.Same d d = some true := by
 obtain ⟨r, h1, h2⟩ := counting_ex d hd
 have h3 : slices.Equal_api_Fault [] [] = some true := by
  unfold slices.Equal_api_Fault
  rw [if_pos rfl, show slices.Equal_api_Fault.loop0 [] [] ⟨0⟩ = some (.inl ()) from whileO_end rfl]
  rfl
 unfold disk.Same
 rw [h1, Option.bind_some, Option.bind_some, eqFile_self r (by omega), Option.bind_some, if_pos rfl, hf, h3]
 rfl

/-! ### Names -/
theorem compact_mem {s : List Str} {x : Str} : x ∈ Go.Lib.compact s ↔ x ∈ s := by
 have hmem : ∀ y, y ∈ Go.Lib.compact s ↔ ∃ j, j < s.length ∧ Go.Lib.keeps s.toArray j = true ∧ s.toArray[j]! = y := fun y => by
  unfold Go.Lib.compact Go.Lib.compactUpTo
  simp only [List.mem_map, List.mem_filter, List.mem_range]
  constructor
  ·rintro ⟨j, ⟨h1, h2⟩, h3⟩; exact ⟨j, h1, h2, h3⟩
  ·rintro ⟨j, h1, h2, h3⟩; exact ⟨j, ⟨h1, h2⟩, h3⟩
 have hat : ∀ j (hj : j < s.length), s.toArray[j]! = s[j] := fun j hj => by rw [getElem!_pos _ j (by simpa using hj)]; simp
 rw [hmem]
 constructor
 ·rintro ⟨j, h1, _, rfl⟩
  rw [hat j h1]
  exact List.getElem_mem h1
 ·intro h
  obtain ⟨j, hj, rfl⟩ := List.mem_iff_getElem.1 h
  have : ∀ n (hn : n < s.length), ∃ i, i < s.length ∧ Go.Lib.keeps s.toArray i = true ∧ s.toArray[i]! = s[n] := by
   intro n
   induction n with
   | zero => intro hn; exact ⟨0, hn, Go.Lib.keeps_lt_one _ _ (by omega), hat 0 hn⟩
   | succ n ih =>
    intro hn
    cases hk : Go.Lib.keeps s.toArray (n + 1) with
    | true => exact ⟨n + 1, hn, hk, hat _ hn⟩
    | false =>
     have e : s[n + 1] = s[n] := by
      unfold Go.Lib.keeps at hk
      have := of_decide_eq_false hk
      rw [not_or, Classical.not_not, Nat.add_sub_cancel, hat _ hn, hat n (by omega)] at this
      exact this.2
     rw [e]
     exact ih (by omega)
  exact this j hj

theorem compact_asc {s : List Str} (hs : s.Pairwise fun a b => (!strLt b a) = true) : Asc (Go.Lib.compact s) := by
 have hat : ∀ j (hj : j < s.length), s.toArray[j]! = s[j] := fun j hj => by rw [getElem!_pos _ j (by simpa using hj)]; simp
 have hp := List.pairwise_iff_getElem.1 hs
 unfold Go.Lib.compact Go.Lib.compactUpTo Asc
 refine List.pairwise_map.2 ?_
 have hr : (List.range s.length).Pairwise (· < ·) := List.pairwise_lt_range
 have h2 := List.Pairwise.sublist (List.filter_sublist (p := Go.Lib.keeps s.toArray)) hr
 refine h2.imp_of_mem fun {a b} ha hb hab => ?_
 have hb1 := List.mem_range.1 (List.mem_filter.1 hb).1
 have hb2 := (List.mem_filter.1 hb).2
 have ha1 : a < s.length := by omega
 rw [hat a ha1, hat b hb1]
 unfold Go.Lib.keeps at hb2
 have hne : s[b] ≠ s[b - 1]'(by omega) := by
  have := of_decide_eq_true hb2
  rcases this with h | h
  ·omega
  ·rw [hat b hb1, hat (b - 1) (by omega)] at h; exact h
 have h3 := hp (b - 1) b (by omega) hb1 (by omega)
 simp only [Bool.not_eq_true'] at h3
 have h4 : strLt (s[b - 1]'(by omega)) s[b] = true := by
  rcases strLt_tri (s[b - 1]'(by omega)) s[b] with h | h | h
  ·exact absurd h.symm hne
  ·exact h
  ·rw [h3] at h; cases h
 by_cases e : a = b - 1
 ·subst e; exact h4
 ·have h5 := hp a (b - 1) ha1 (by omega) (by omega)
  simp only [Bool.not_eq_true'] at h5
  rcases strLt_tri s[a] (s[b - 1]'(by omega)) with h | h | h
  ·rw [h]; exact h4
  ·exact strLt_trans h h4
  ·rw [h5] at h; cases h

theorem sort_pw (x : List Str) : (x.mergeSort fun a b => decide (a ≤ b)).Pairwise fun a b => (!strLt b a) = true := by
 have hf : (fun a b : Str => decide (a ≤ b)) = fun a b => !strLt b a := by funext a b; exact le_strLt a b
 rw [hf]
 exact List.pairwise_mergeSort (le := fun a b : Str => !strLt b a) (fun a b c h1 h2 => by
  simp only [Bool.not_eq_true'] at *
  rcases strLt_tri a b with h | h | h
  ·subst h; exact h2
  ·rcases strLt_tri b c with h' | h' | h'
   ·subst h'; exact strLt_asymm h
   ·exact strLt_asymm (strLt_trans h h')
   ·rw [h2] at h'; cases h'
  ·rw [h1] at h; cases h) (fun a b => by
  simp only [Bool.or_eq_true, Bool.not_eq_true']
  rcases strLt_tri a b with h | h | h
  ·subst h; exact .inl (strLt_irrefl _)
  ·exact .inl (strLt_asymm h)
  ·exact .inr (strLt_asymm h)) x

theorem Names_eq (d : api.Disk) (hd : d.Files.length < 1000000) : ∃ r, disk.Names d = some r ∧ Asc r ∧ (∀ x, x ∈ r ↔ (look d.Files x).isSome = true) ∧ r.length ≤ d.Files.length := by
 have hloop : disk.Names.loop0 d ⟨0, []⟩ = some (d.Files.map (·.Name)) := by
  unfold disk.Names.loop0
  refine whileO_knownE ⟨0, []⟩ (fun i => (⟨(i : Int), (d.Files.take i).map (·.Name)⟩ : disk.Names.S0)) d.Files.length (fun i hi => ?_) ?_
  ·unfold disk.Names.body0
   show (if (i : Int) < (d.Files.length : Int) then _ else _) = _
   rw [if_pos (by omega)]
   show need (InB (i : Int) d.Files.length) (need ((((d.Files.take i).map (·.Name)).length + 1) * 16 ≤ 140737488355328) _) = _
   rw [need_eq ⟨by omega, by omega⟩, need_eq (by rw [List.length_map, List.length_take]; omega)]
   show some (Sum.inl (⟨IntKind.wrap .i64 ((i : Int) + 1), (d.Files.take i).map (·.Name) ++ [(ix d.Files (i : Int)).Name]⟩ : disk.Names.S0)) = _
   rw [ix_get hi, i64w (by omega) (by omega), show (i : Int) + 1 = ((i + 1 : Nat) : Int) by omega, List.take_add_one, List.getElem?_eq_getElem hi, List.map_append]
   rfl
  ·unfold disk.Names.body0
   show (if (d.Files.length : Int) < (d.Files.length : Int) then _ else _) = _
   rw [if_neg (by omega), List.take_length]
 have hp := List.mergeSort_perm (d.Files.map (·.Name)) fun a b => decide (a ≤ b)
 have hml : ((d.Files.map (·.Name)).mergeSort fun a b => decide (a ≤ b)).length = d.Files.length := by rw [hp.length_eq, List.length_map]
 refine ⟨Go.Lib.compact ((d.Files.map (·.Name)).mergeSort fun a b => decide (a ≤ b)), ?_, compact_asc (sort_pw _), fun x => ?_, ?_⟩
 ·unfold disk.Names
  rw [hloop, Option.bind_some]
  unfold slices.Sort_string
  rw [need_eq (by rw [List.length_map]; omega), Option.bind_some]
  unfold slices.Compact_string
  rw [need_eq (by rw [hml]; omega)]
  rfl
 ·rw [compact_mem, hp.mem_iff, List.mem_map]
  constructor
  ·rintro ⟨f, hf, rfl⟩
   cases h : look d.Files f.Name with
   | some _ => rfl
   | none => exact absurd (isN_iff.2 rfl) (List.find?_eq_none.1 h f hf)
  ·intro h
   obtain ⟨f, hf⟩ := Option.isSome_iff_exists.1 h
   exact ⟨f, (look_some hf).1, (look_some hf).2⟩
 ·rw [← hml]
  unfold Go.Lib.compact Go.Lib.compactUpTo
  rw [List.length_map]
  exact Nat.le_trans (List.length_filter_le _ _) (by simp)

end Go.Pu
