import Derived.Test.YtmognhokagemiaaGreatRTPuDisk2
set_option maxHeartbeats 0
set_option maxRecDepth 100000
namespace Go.Pu
open Go.Lift

def sfF (f : api.File) : api.File := { f with Synced := (clampN f.Synced f.Data.length : Int) }

theorem counting_loop (d : api.Disk) (hd : d.Files.length < 1000000) : disk.counting.loop0 d ⟨0, []⟩ = some ((fstA d.Files).map sfF) := by
 unfold disk.counting.loop0
 refine whileO_knownE ⟨0, []⟩ (fun i => (⟨(i : Int), (fsts d.Files i).map sfF⟩ : disk.counting.S0)) d.Files.length (fun i hi => ?_) ?_
 ·unfold disk.counting.body0
  show (if (i : Int) < (d.Files.length : Int) then _ else _) = _
  rw [if_pos (by omega)]
  show ((need (InB (i : Int) d.Files.length) ((disk.find d (ix d.Files (i : Int)).Name).bind _)).bind _) = _
  have hw : IntKind.wrap .i64 ((i : Int) + 1) = ((i + 1 : Nat) : Int) := by rw [i64w (by omega) (by omega)]; omega
  rw [need_eq ⟨by omega, by omega⟩, find_eq (by omega), Option.bind_some]
  show _ = some (Sum.inl (⟨((i + 1 : Nat) : Int), (fsts d.Files (i + 1)).map sfF⟩ : disk.counting.S0))
  rw [fsts_succ]
  have hlen := fsts_len d.Files i
  by_cases hf : fx d.Files (ix d.Files (i : Int)).Name = (i : Int)
  ·rw [if_pos hf, if_pos (show fx d.Files (ix d.Files (i : Int)).Name = (i : Int) from hf)]
   simp only []
   generalize ix d.Files (i : Int) = f
   rw [safe_eq, Option.bind_some]
   show ((need ((((fsts d.Files i).map sfF).length + 1) * 40 ≤ 140737488355328) (some ((fsts d.Files i).map sfF ++ [sfF f]))).bind _) = _
   rw [need_eq (by rw [List.length_map]; omega), Option.bind_some]
   show some (Sum.inl (⟨IntKind.wrap .i64 ((i : Int) + 1), _⟩ : disk.counting.S0)) = _
   rw [hw, List.map_append]
   rfl
  ·rw [if_neg hf, if_neg (show ¬ fx d.Files (ix d.Files (i : Int)).Name = (i : Int) from hf), List.append_nil, Option.bind_some]
   show some (Sum.inl (⟨IntKind.wrap .i64 ((i : Int) + 1), _⟩ : disk.counting.S0)) = _
   rw [hw]
 ·unfold disk.counting.body0
  show (if (d.Files.length : Int) < (d.Files.length : Int) then _ else _) = _
  rw [if_neg (by omega)]
  rfl

theorem counting_ex (d : api.Disk) (hd : d.Files.length < 1000000) : ∃ r, disk.counting d = some r ∧ r.length ≤ d.Files.length := by
 have hl : ((fstA d.Files).map sfF).length ≤ d.Files.length := by
  rw [List.length_map]
  exact fsts_len _ _
 have hn : (((fstA d.Files).map sfF).map fun y => y.Name).Nodup := by
  rw [List.map_map]
  exact fstA_nodup d.Files
 refine ⟨((fstA d.Files).map sfF).mergeSort fun a b => !strLt b.Name a.Name, ?_, by rw [List.length_mergeSort]; exact hl⟩
 unfold disk.counting
 rw [counting_loop d hd, Option.bind_some]
 unfold slices.SortFunc_api_File
 rw [need_eq ⟨by omega, hn⟩]
 rfl

theorem eqFile_self (a : List api.File) (h : a.length ≤ 1000000000000000) : slices.Equal_api_File a a = some true := by
 unfold slices.Equal_api_File
 rw [if_pos rfl]
 have : slices.Equal_api_File.loop0 a a ⟨0⟩ = some (.inl ()) := by
  unfold slices.Equal_api_File.loop0
  refine whileO_knownE ⟨0⟩ (fun i => (⟨(i : Int)⟩ : slices.Equal_api_File.S0)) a.length (fun i hi => ?_) ?_
  ·unfold slices.Equal_api_File.body0
   show (if (i : Int) < (a.length : Int) then _ else _) = _
   rw [if_pos (by omega), need_eq ⟨by show (0 : Int) ≤ (i : Int); omega, by show (i : Int) < (a.length : Int); omega⟩, need_eq ⟨by show (0 : Int) ≤ (i : Int); omega, by show (i : Int) < (a.length : Int); omega⟩, if_pos rfl]
   show some (Sum.inl (⟨IntKind.wrap .i64 ((i : Int) + 1)⟩ : slices.Equal_api_File.S0)) = _
   rw [i64w (by omega) (by omega), show (i : Int) + 1 = ((i + 1 : Nat) : Int) by omega]
  ·unfold slices.Equal_api_File.body0
   exact if_neg (by show ¬ (a.length : Int) < (a.length : Int); omega)
 rw [this]
 rfl

theorem Same_selfD (d : api.Disk) (hd : d.Files.length < 1000000) (hf : d.Faults = []) : disk.Same d d = some true := by
 obtain ⟨r, h1, h2⟩ := counting_ex d hd
 have h3 : slices.Equal_api_Fault [] [] = some true := by
  unfold slices.Equal_api_Fault
  rw [if_pos rfl, show slices.Equal_api_Fault.loop0 [] [] ⟨0⟩ = some (.inl ()) from whileO_end rfl]
  rfl
 unfold disk.Same
 rw [h1, Option.bind_some, Option.bind_some, eqFile_self r (by omega), Option.bind_some, if_pos rfl, hf, h3]
 rfl

/-! ### Names -/

end Go.Pu
