import Derived.Test.YtmognhokagemiaaGreatRZPuDisk2
import Derived.Test.YtmognhokagemiaaGreatRZPuUnit3
import Derived.Test.YtmognhokagemiaaGreatRZP
set_option maxHeartbeats 0
set_option maxRecDepth 100000
namespace Go.Pu
open Go.Lift

def sfF (f : api.File) : api.File := { f with Synced := (clampN f.Synced f.Data.length : Int) }

theorem counting_loop (d : api.Disk) (hd : d.Files.length < 1000000) : disk.counting.loop0 d ⟨0, []⟩ = some ((fstA d.Files).map sfF) := by
 unfold disk.counting.loop0
 refine whileO_knownE ⟨0, []⟩ (fun i => (⟨(i : Int), (fsts d.Files i).map sfF⟩ : disk.counting.S0)) d.Files.length (fun i hi => ?_) ?_
 ·unfold disk.counting.body0
  show (if (i : Int) < (d.Files.length : Int) then _ else _) = _
  rw [if_pos (by omega)]
  show ((need (InB (i : Int) d.Files.length) ((disk.find d (ix d.Files (i : Int)).Name).bind _)).bind _) = _
  have hw : IntKind.wrap .i64 ((i : Int) + 1) = ((i + 1 : Nat) : Int) := by rw [i64w (by omega) (by omega)]; omega
  rw [need_eq ⟨by omega, by omega⟩, find_eq (by omega), Option.bind_some]
  show _ = some (Sum.inl (⟨((i + 1 : Nat) : Int), (fsts d.Files (i + 1)).map sfF⟩ : disk.counting.S0))
  rw [fsts_succ]
  have hlen := fsts_len d.Files i
  by_cases hf : fx d.Files (ix d.Files (i : Int)).Name = (i : Int)
  ·rw [if_pos hf, if_pos (show fx d.Files (ix d.Files (i : Int)).Name = (i : Int) from hf)]
   simp only []
   generalize ix d.Files (i : Int) = f
   rw [safe_eq, Option.bind_some]
   show ((need ((((fsts d.Files i).map sfF).length + 1) * 40 ≤ 140737488355328) (some ((fsts d.Files i).map sfF ++ [sfF f]))).bind _) = _
   rw [need_eq (by rw [List.length_map]; omega), Option.bind_some]
   show some (Sum.inl (⟨IntKind.wrap .i64 ((i : Int) + 1), _⟩ : disk.counting.S0)) = _
   rw [hw, List.map_append]
   rfl
  ·rw [if_neg hf, if_neg (show ¬ fx d.Files (ix d.Files (i : Int)).Name = (i : Int) from hf), List.append_nil, Option.bind_some]
   show some (Sum.inl (⟨IntKind.wrap .i64 ((i : Int) + 1), _⟩ : disk.counting.S0)) = _
   rw [hw]
 ·unfold disk.counting.body0
  show (if (d.Files.length : Int) < (d.Files.length : Int) then _ else _) = _
  rw [if_neg (by omega)]
  rfl

theorem counting_ex (d : api.Disk) (hd : d.Files.length < 1000000) : ∃ r, disk.counting d = some r ∧ r.length ≤ d.Files.length := by
 have hl : ((fstA d.Files).map sfF).length ≤ d.Files.length := by
  rw [List.length_map]
  exact fsts_len _ _
 have hn : (((fstA d.Files).map sfF).map fun y => y.Name).Nodup := by
  rw [List.map_map]
  exact fstA_nodup d.Files
 refine ⟨((fstA d.Files).map sfF).mergeSort fun a b => !strLt b.Name a.Name, ?_, by rw [List.length_mergeSort]; exact hl⟩
 unfold disk.counting
 rw [counting_loop d hd, Option.bind_some]
 unfold slices.SortFunc_api_File
 rw [need_eq ⟨by omega, hn⟩]
 rfl

theorem eqFile_self (a : List api.File) (h : a.length ≤ 1000000000000000) : slices.Equal_api_File a a = some true := by
 unfold slices.Equal_api_File
 rw [if_pos rfl]
 have : slices.Equal_api_File.loop0 a a ⟨0⟩ = some (.inl ()) := by
  unfold slices.Equal_api_File.loop0
  refine whileO_knownE ⟨0⟩ (fun i => (⟨(i : Int)⟩ : slices.Equal_api_File.S0)) a.length (fun i hi => ?_) ?_
  ·unfold slices.Equal_api_File.body0
   show (if (i : Int) < (a.length : Int) then _ else _) = _
   rw [if_pos (by omega), need_eq ⟨by show (0 : Int) ≤ (i : Int); omega, by show (i : Int) < (a.length : Int); omega⟩, need_eq ⟨by show (0 : Int) ≤ (i : Int); omega, by show (i : Int) < (a.length : Int); omega⟩, if_pos rfl]
   show some (Sum.inl (⟨IntKind.wrap .i64 ((i : Int) + 1)⟩ : slices.Equal_api_File.S0)) = _
   rw [i64w (by omega) (by omega), show (i : Int) + 1 = ((i + 1 : Nat) : Int) by omega]
  ·unfold slices.Equal_api_File.body0
   exact if_neg (by show ¬ (a.length : Int) < (a.length : Int); omega)
 rw [this]
 rfl

/-! ### Names -/

end Go.Pu

set_option maxHeartbeats 0
set_option maxRecDepth 100000
namespace Go.Pu
open Go.Lift

theorem modF_mem' {g : api.File → api.File} {name : List UInt8} {x : api.File} : ∀ {l : List api.File}, x ∈ modF g name l → x ∈ l ∨ ∃ y, y ∈ l ∧ x = g y
 | [], h => by cases h
 | y :: l, h => by
  unfold modF at h
  split at h
  ·rcases List.mem_cons.1 h with h | h
   ·exact .inr ⟨y, List.mem_cons_self .., h⟩
   ·exact .inl (List.mem_cons_of_mem _ h)
  ·rcases List.mem_cons.1 h with h | h
   ·exact .inl (h ▸ List.mem_cons_self ..)
   ·rcases modF_mem' h with h | ⟨z, hz, e⟩
    ·exact .inl (List.mem_cons_of_mem _ h)
    ·exact .inr ⟨z, List.mem_cons_of_mem _ hz, e⟩
def newN (name : List UInt8) : List UInt8 := name ++ [46, 110, 101, 119]
theorem newN_ne (name : List UInt8) : name ≠ newN name := fun e => by
 have := congrArg List.length e
 unfold newN at this
 simp at this

theorem look_new (l : List api.File) (name : List UInt8) : look (l.filter (notN (newN name))) name = look l name :=
 look_filter l fun f hf => by
  unfold notN
  rw [isN_not.2 (by rw [hf]; exact newN_ne name)]
  rfl

theorem allM_le (s : List UInt8) (hs : s.length ≤ 60000) : (allM s).2 ≤ s.length ∧ s.take (allM s).2 = rowsM (allM s).1 ∧ (∀ u, u ∈ (allM s).1 → mayM u.Cmds = true ∧ wtU u.Cmds ≤ 200000) ∧ (allM s).1.length ≤ s.length := by
 obtain ⟨h1, h2, h3, h4⟩ := allN_ok (s.length + 1) s hs
 exact ⟨h2, h1, h3, h4⟩
/-- What a load tells. -/
def loadM (d : api.Disk) (name : List UInt8) : api.Disk × List api.Unit × Int :=
 match look d.Files name with
 | none => ({ d with Files := d.Files.filter (notN (newN name)) }, [], 0)
 | some x =>
  if clampN x.Synced (allM x.Data).2 < (allM x.Data).2 then
   if (takeF name 2 d.Faults).1.isSome then ({ Files := modF (cuF (allM x.Data).2) name (d.Files.filter (notN (newN name))), Faults := (takeF name 2 d.Faults).2 }, [], 15)
   else ({ Files := modF syF name (modF (cuF (allM x.Data).2) name (d.Files.filter (notN (newN name)))), Faults := (takeF name 2 d.Faults).2 }, (allM x.Data).1, 0)
  else ({ Files := modF (cuF (allM x.Data).2) name (d.Files.filter (notN (newN name))), Faults := d.Faults }, (allM x.Data).1, 0)

theorem Load_eq (d : api.Disk) (name : List UInt8) (hf : d.Files.length < 1000000) (ht : d.Faults.length < 1000000) (hb : ∀ x, x ∈ d.Files → x.Data.length ≤ 60000) (hn : name.length < 1000000) : restore.Load d name = some (loadM d name) := by
 have hsz : DSz d := ⟨by omega, by omega, fun x hx => by have := hb x hx; omega⟩
 have hfl := List.length_filter_le (notN (newN name)) d.Files
 unfold restore.Load restore.Other
 rw [need_eq (by simp; omega), Option.bind_some]
 show ((disk.Remove d (newN name)).bind _) = _
 rw [Remove_eq hsz, Option.bind_some]
 obtain ⟨F, hF⟩ : ∃ F, F = d.Files.filter (notN (newN name)) := ⟨_, rfl⟩
 have hFm : ∀ x, x ∈ F → x ∈ d.Files := fun x hx => by rw [hF] at hx; exact (List.mem_filter.1 hx).1
 have hFl : F.length ≤ d.Files.length := by rw [hF]; exact hfl
 rw [Read_eq (by show (d.Files.filter (notN (newN name))).length < _; omega), Option.bind_some]
 unfold loadM
 rw [look_new, ← hF]
 have hlk : look F name = look d.Files name := by rw [hF]; exact look_new _ _
 cases hl : look d.Files name with
 | none => rfl
 | some x =>
  have hx : x.Data.length ≤ 60000 := hb x (List.mem_of_find?_eq_some hl)
  obtain ⟨h1, _, _, _⟩ := allM_le x.Data hx
  obtain ⟨n, hnn⟩ : ∃ n, n = (allM x.Data).2 := ⟨_, rfl⟩
  rw [if_pos rfl]
  show ((unit.All x.Data).bind _) = _
  rw [AllU_eq _ hx, Option.bind_some]
  show ((disk.Cut { Files := F, Faults := d.Faults } name ((allM x.Data).2 : Int)).bind _) = _
  have hsz1 : DSz { Files := F, Faults := d.Faults } := ⟨by show F.length < _; omega, by show d.Faults.length < _; omega, fun y hy => by have := hb y (hFm y hy); omega⟩
  have hcut : disk.Cut { Files := F, Faults := d.Faults } name ((allM x.Data).2 : Int) = some ({ Files := modF (cuF ((allM x.Data).2 : Int)) name F, Faults := d.Faults }, 0) := by
   rw [Cut_eq hsz1]
   show some (if (look F name).isSome = true then _ else _) = _
   rw [hlk, hl]
   rfl
  rw [hcut, Option.bind_some]
  have hc : clampN ((allM x.Data).2 : Int) x.Data.length = (allM x.Data).2 := by unfold clampN; omega
  have hcu : cuF ((allM x.Data).2 : Int) x = { Name := x.Name, Data := x.Data.take n, Synced := (clampN x.Synced n : Int) } := by
   unfold cuF
   rw [hc, hnn]
  have hlg : look (modF (cuF ((allM x.Data).2 : Int)) name F) name = some (cuF ((allM x.Data).2 : Int) x) := by
   rw [look_modF (cuF ((allM x.Data).2 : Int)) (fun _ => rfl), if_pos rfl, hlk, hl]
   rfl
  have hsz2 : DSz { Files := modF (cuF ((allM x.Data).2 : Int)) name F, Faults := d.Faults } := ⟨by show (modF _ _ _).length < _; rw [modF_len]; omega, by show d.Faults.length < _; omega, fun y hy => by
   rcases modF_mem' hy with hy | ⟨z, hz, rfl⟩
   ·have := hb y (hFm y hy); omega
   ·have := hb z (hFm z hz)
    show (z.Data.take _).length < _
    rw [List.length_take]; omega⟩
  have hsafe : disk.Safe { Files := modF (cuF ((allM x.Data).2 : Int)) name F, Faults := d.Faults } name = some ((x.Data.take n).take (clampN x.Synced n)) := by
   rw [Safe_eq hsz2.f, hlg, hcu]
   show some ((x.Data.take n).take (clampN (clampN x.Synced n : Int) (x.Data.take n).length)) = _
   rw [List.length_take, show min n x.Data.length = n by omega, clampN_self]
  have hsl : ((x.Data.take n).take (clampN x.Synced n)).length = clampN x.Synced n := by
   have := clampN_le x.Synced n
   rw [List.length_take, List.length_take]; omega
  have hsync : disk.Sync { Files := modF (cuF ((allM x.Data).2 : Int)) name F, Faults := d.Faults } name = some (if (takeF name 2 d.Faults).1.isSome then ({ Files := modF (cuF ((allM x.Data).2 : Int)) name F, Faults := (takeF name 2 d.Faults).2 }, 15) else ({ Files := modF syF name (modF (cuF ((allM x.Data).2 : Int)) name F), Faults := (takeF name 2 d.Faults).2 }, 0)) := by
   rw [Sync_eq hsz2]
   show some (if (look (modF (cuF ((allM x.Data).2 : Int)) name F) name).isSome = true then _ else _) = _
   rw [hlg]
   rfl
  simp only []
  rw [if_pos trivial, hsafe, Option.bind_some, hsl, hsync]
  rw [← hnn]
  by_cases hlt : clampN x.Synced n < n
  ·rw [if_pos (show (clampN x.Synced n : Int) < (n : Int) by omega), if_pos hlt]
   by_cases hft : (takeF name 2 d.Faults).1.isSome = true
   ·rw [if_pos hft, if_pos hft]
    rfl
   ·rw [if_neg hft, if_neg hft]
    rfl
  ·rw [if_neg (show ¬ (clampN x.Synced n : Int) < (n : Int) by omega), if_neg hlt]
   rfl

theorem eqFault_slf (a : List api.Fault) (h : a.length ≤ 1000000000000000) : slices.Equal_api_Fault a a = some true := by
 unfold slices.Equal_api_Fault
 rw [if_pos rfl]
 have : slices.Equal_api_Fault.loop0 a a ⟨0⟩ = some (.inl ()) := by
  unfold slices.Equal_api_Fault.loop0
  refine whileO_knownE ⟨0⟩ (fun i => (⟨(i : Int)⟩ : slices.Equal_api_Fault.S0)) a.length (fun i hi => ?_) ?_
  ·unfold slices.Equal_api_Fault.body0
   show (if (i : Int) < (a.length : Int) then _ else _) = _
   rw [if_pos (by omega), need_eq ⟨by show (0 : Int) ≤ (i : Int); omega, by show (i : Int) < (a.length : Int); omega⟩, need_eq ⟨by show (0 : Int) ≤ (i : Int); omega, by show (i : Int) < (a.length : Int); omega⟩, if_pos rfl]
   show some (Sum.inl (⟨IntKind.wrap .i64 ((i : Int) + 1)⟩ : slices.Equal_api_Fault.S0)) = _
   rw [i64w (by omega) (by omega), show (i : Int) + 1 = ((i + 1 : Nat) : Int) by omega]
  ·unfold slices.Equal_api_Fault.body0
   exact if_neg (by show ¬ (a.length : Int) < (a.length : Int); omega)
 rw [this]
 rfl
theorem Same_slf (d : api.Disk) (hd : d.Files.length < 1000000) (ht : d.Faults.length < 1000000) : disk.Same d d = some true := by
 obtain ⟨r, h1, h2⟩ := counting_ex d hd
 unfold disk.Same
 rw [h1, Option.bind_some, Option.bind_some, eqFile_self r (by omega), Option.bind_some, if_pos rfl, eqFault_slf _ (by omega)]
 rfl

end Go.Pu

set_option maxHeartbeats 0
set_option maxRecDepth 100000
namespace Go.Pu
open Go.Lift

/-- A text, and one of its beginnings behind it: the first unit alone is told. -/
theorem allM_part {c : Cmds} (hm : mayM c = true) (hp : (putL c).length ≤ 4194304) (k : Nat) (hk : k < (unitM c).length) : allM (unitM c ++ (unitM c).take k) = ([{ Cmds := c }], (unitM c).length) := by
 obtain ⟨k', h⟩ := allN_rows [{ Cmds := c }] ((unitM c ++ (unitM c).take k).length + 1) ((unitM c).take k) (fun u hu => by
  obtain rfl : u = { Cmds := c } := by simpa using hu
  exact ⟨hm, hp⟩) (by simp [rowsM])
 have e : rowsM [{ Cmds := c }] = unitM c := by simp [rowsM]
 rw [e] at h
 have h2 : allN k' ((unitM c).take k) = ([], 0) := by
  cases k' with
  | zero => rfl
  | succ k' =>
   show (if (takeM ((unitM c).take k)).2.2 = 0 then _ else _) = _
   rw [take_cut hp k hk]
   rfl
 unfold allM
 rw [h, h2]
 simp

theorem alive18 : mewslaw18.alive = some true := by
 obtain ⟨c, hc⟩ : ∃ c : Cmds, c = [[[80, 73, 78, 71]]] := ⟨_, rfl⟩
 have hw : wtU c ≤ 300000 := by rw [hc]; decide
 have hm : mayM c = true := by rw [hc]; decide
 have hp : (putL c).length = 14 := by rw [hc]; decide +kernel
 have hl : (unitM c).length = 23 := by rw [unitM_len, hp]
 have hput : unit.Put { Cmds := c } = some (unitM c, 0) := by
  rw [PutU_eq _ hw]
  unfold putU
  rw [if_pos hm]
 unfold mewslaw18.alive
 rw [← hc, hput, Option.bind_some, if_pos (by show ((unitM c).length : Int) = 23; omega), need_eq ⟨by omega, by omega, by show (9 : Int) ≤ ((unitM c).length : Int); omega⟩]
 have hsub : sub (unitM c) 0 9 = (unitM c).take 9 := by rw [sub_zero]; rfl
 show (need ((unitM c).length + (sub (unitM c) 0 9).length ≤ 9223372036854775807) ((restore.Load { Files := [{ Name := [102], Data := unitM c ++ sub (unitM c) 0 9, Synced := 0 }, { Name := [102, 46, 110, 101, 119], Data := [120], Synced := 0 }], Faults := [] } [102]).bind _)) = _
 rw [hsub, need_eq (by rw [List.length_take]; omega)]
 have hall := allM_part hm (by omega) 9 (by omega)
 obtain ⟨x, hx⟩ : ∃ x : api.File, x = { Name := [102], Data := unitM c ++ (unitM c).take 9, Synced := 0 } := ⟨_, rfl⟩
 have hxl : x.Data.length = 32 := by rw [hx]; show (unitM c ++ (unitM c).take 9).length = 32; rw [List.length_append, List.length_take]; omega
 have hload : restore.Load { Files := [x, { Name := [102, 46, 110, 101, 119], Data := [120], Synced := 0 }], Faults := [] } [102] = some ({ Files := [{ Name := [102], Data := unitM c, Synced := 23 }], Faults := [] }, [{ Cmds := c }], 0) := by
  rw [Load_eq _ _ (by show 2 < 1000000; omega) (by show 0 < 1000000; omega) (fun y hy => by
   simp only [List.mem_cons, List.not_mem_nil, or_false] at hy
   rcases hy with rfl | rfl
   ·omega
   ·show 1 ≤ 60000; omega) (by show 1 < 1000000; omega)]
  have hlk : look [x, { Name := [102, 46, 110, 101, 119], Data := [120], Synced := 0 }] [102] = some x := by
   refine look_mid (a := []) ?_ (by simp)
   rw [hx]
  have hfil : [x, ({ Name := [102, 46, 110, 101, 119], Data := [120], Synced := 0 } : api.File)].filter (notN (newN [102])) = [x] := by
   rw [hx]; rfl
  have hxd : allM x.Data = ([{ Cmds := c }], 23) := by rw [hx, ← hl]; exact hall
  unfold loadM
  show some (match look [x, ({ Name := [102, 46, 110, 101, 119], Data := [120], Synced := 0 } : api.File)] [102] with | none => _ | some x => _) = _
  rw [hlk]
  show some (if clampN x.Synced (allM x.Data).2 < (allM x.Data).2 then (({ Files := modF syF [102] (modF (cuF (allM x.Data).2) [102] ([x, ({ Name := [102, 46, 110, 101, 119], Data := [120], Synced := 0 } : api.File)].filter (notN (newN [102])))), Faults := [] } : api.Disk), (allM x.Data).1, (0 : Int)) else _) = _
  rw [hxd, hfil, if_pos (by rw [hx]; show clampN 0 23 < 23; decide)]
  have e1 : modF (cuF ((23 : Nat) : Int)) [102] [x] = [cuF ((23 : Nat) : Int) x] := modF_mid (a := []) (b := []) (by rw [hx]) (by simp)
  have e2 : modF syF [102] [cuF ((23 : Nat) : Int) x] = [syF (cuF ((23 : Nat) : Int) x)] := modF_mid (a := []) (b := []) (by rw [hx]; rfl) (by simp)
  have e3 : syF (cuF ((23 : Nat) : Int) x) = { Name := [102], Data := unitM c, Synced := 23 } := by
   have hcl : clampN ((23 : Nat) : Int) x.Data.length = 23 := by rw [hxl]; decide
   have hd : x.Data.take 23 = unitM c := by rw [hx, ← hl]; exact List.take_left
   unfold cuF syF
   simp only []
   rw [hcl, hd, hl, hx]
   rfl
  rw [e1, e2, e3]
 rw [← hx, hload, Option.bind_some]
 show (((disk.Same { Files := [{ Name := [102], Data := unitM c, Synced := 23 }], Faults := [] } { Files := [{ Name := [102], Data := unitM c, Synced := 23 }], Faults := [] }).bind fun r41 => if r41 = true then (restore.Other [102]).bind fun r43 => some (decide (r43 = [102, 46, 110, 101, 119])) else some false).bind fun s35 => some s35) = _
 rw [Same_slf _ (by show 1 < 1000000; omega) (by show 0 < 1000000; omega)]
 decide

end Go.Pu
