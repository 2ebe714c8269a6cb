import Derived.Test.YtmognhokagemiaaGreatRTPuUnit4
import Derived.Test.YtmognhokagemiaaGreatRTPuDisk5A
import Derived.Test.YtmognhokagemiaaGreatRTP
set_option maxHeartbeats 0
set_option maxRecDepth 100000
namespace Go.Pu
open Go.Lift

theorem modF_mem' {g : api.File → api.File} {name : List UInt8} {x : api.File} : ∀ {l : List api.File}, x ∈ modF g name l → x ∈ l ∨ ∃ y, y ∈ l ∧ x = g y
 | [], h => by cases h
 | y :: l, h => by
  unfold modF at h
  split at h
  ·rcases List.mem_cons.1 h with h | h
   ·exact .inr ⟨y, List.mem_cons_self .., h⟩
   ·exact .inl (List.mem_cons_of_mem _ h)
  ·rcases List.mem_cons.1 h with h | h
   ·exact .inl (h ▸ List.mem_cons_self ..)
   ·rcases modF_mem' h with h | ⟨z, hz, e⟩
    ·exact .inl (List.mem_cons_of_mem _ h)
    ·exact .inr ⟨z, List.mem_cons_of_mem _ hz, e⟩
theorem modF_id {g : api.File → api.File} {name : List UInt8} {y : api.File} : ∀ {l : List api.File}, look l name = some y → g y = y → modF g name l = l
 | [], _, _ => rfl
 | x :: l, h, hg => by
  unfold look at h
  rw [List.find?_cons] at h
  unfold modF
  cases hx : isN name x with
  | true =>
   rw [hx] at h
   have e : x = y := Option.some.inj h
   rw [if_pos rfl, e, hg]
  | false =>
   rw [hx] at h
   rw [if_neg (by decide), modF_id h hg]

def newN (name : List UInt8) : List UInt8 := name ++ [46, 110, 101, 119]
theorem newN_ne (name : List UInt8) : name ≠ newN name := fun e => by
 have := congrArg List.length e
 unfold newN at this
 simp at this

theorem look_new (l : List api.File) (name : List UInt8) : look (l.filter (notN (newN name))) name = look l name :=
 look_filter l fun f hf => by
  unfold notN
  rw [isN_not.2 (by rw [hf]; exact newN_ne name)]
  rfl

theorem allM_le (s : List UInt8) (hs : s.length ≤ 60000) : (allM s).2 ≤ s.length ∧ s.take (allM s).2 = rowsM (allM s).1 ∧ (∀ u, u ∈ (allM s).1 → mayM u.Cmds = true ∧ wtU u.Cmds ≤ 200000) ∧ (allM s).1.length ≤ s.length := by
 obtain ⟨h1, h2, h3, h4⟩ := allN_ok (s.length + 1) s hs
 exact ⟨h2, h1, h3, h4⟩
theorem allN_nil : ∀ k, allN k [] = ([], 0)
 | 0 => rfl
 | k + 1 => by
  show (if (takeM []).2.2 = 0 then _ else _) = _
  rw [tk_nil]
  rfl
theorem allM_twice (s : List UInt8) (hs : s.length ≤ 60000) : allM (s.take (allM s).2) = allM s := by
 obtain ⟨h1, h2, h3, h4⟩ := allM_le s hs
 have hr : (rowsM (allM s).1).length = (allM s).2 := by rw [← h2, List.length_take]; omega
 obtain ⟨k', hk⟩ := allN_rows (allM s).1 ((s.take (allM s).2).length + 1) [] (fun u hu => ⟨(h3 u hu).1, by have := putL_len u.Cmds (by have := (h3 u hu).2; omega); have := (h3 u hu).2; omega⟩) (by rw [List.append_nil, hr, List.length_take]; omega)
 rw [List.append_nil, allN_nil] at hk
 have : allM (s.take (allM s).2) = allN ((s.take (allM s).2).length + 1) (rowsM (allM s).1) := by
  unfold allM
  unfold allM at h2
  rw [h2]
 rw [this, hk, hr]
 simp

/-- What a load tells. -/
def loadM (d : api.Disk) (name : List UInt8) : api.Disk × List api.Unit × Int :=
 match look d.Files name with
 | none => ({ d with Files := d.Files.filter (notN (newN name)) }, [], 0)
 | some x =>
  if clampN x.Synced (allM x.Data).2 < (allM x.Data).2 then
   if (takeF name 2 d.Faults).1.isSome then ({ Files := modF (cuF (allM x.Data).2) name (d.Files.filter (notN (newN name))), Faults := (takeF name 2 d.Faults).2 }, [], 15)
   else ({ Files := modF syF name (modF (cuF (allM x.Data).2) name (d.Files.filter (notN (newN name)))), Faults := (takeF name 2 d.Faults).2 }, (allM x.Data).1, 0)
  else ({ Files := modF (cuF (allM x.Data).2) name (d.Files.filter (notN (newN name))), Faults := d.Faults }, (allM x.Data).1, 0)

theorem Load_eq (d : api.Disk) (name : List UInt8) (hf : d.Files.length < 1000000) (ht : d.Faults.length < 1000000) (hb : ∀ x, x ∈ d.Files → x.Data.length ≤ 60000) (hn : name.length < 1000000) : restore.Load d name = some (loadM d name) := by
 have hsz : DSz d := ⟨by omega, by omega, fun x hx => by have := hb x hx; omega⟩
 have hfl := List.length_filter_le (notN (newN name)) d.Files
 unfold restore.Load restore.Other
 rw [need_eq (by simp; omega), Option.bind_some]
 show ((disk.Remove d (newN name)).bind _) = _
 rw [Remove_eq hsz, Option.bind_some]
 obtain ⟨F, hF⟩ : ∃ F, F = d.Files.filter (notN (newN name)) := ⟨_, rfl⟩
 have hFm : ∀ x, x ∈ F → x ∈ d.Files := fun x hx => by rw [hF] at hx; exact (List.mem_filter.1 hx).1
 have hFl : F.length ≤ d.Files.length := by rw [hF]; exact hfl
 rw [Read_eq (by show (d.Files.filter (notN (newN name))).length < _; omega), Option.bind_some]
 unfold loadM
 rw [look_new, ← hF]
 have hlk : look F name = look d.Files name := by rw [hF]; exact look_new _ _
 cases hl : look d.Files name with
 | none => rfl
 | some x =>
  have hx : x.Data.length ≤ 60000 := hb x (List.mem_of_find?_eq_some hl)
  obtain ⟨h1, _, _, _⟩ := allM_le x.Data hx
  obtain ⟨n, hnn⟩ : ∃ n, n = (allM x.Data).2 := ⟨_, rfl⟩
  rw [if_pos rfl]
  show ((unit.All x.Data).bind _) = _
  rw [AllU_eq _ hx, Option.bind_some]
  show ((disk.Cut { Files := F, Faults := d.Faults } name ((allM x.Data).2 : Int)).bind _) = _
  have hsz1 : DSz { Files := F, Faults := d.Faults } := ⟨by show F.length < _; omega, by show d.Faults.length < _; omega, fun y hy => by have := hb y (hFm y hy); omega⟩
  have hcut : disk.Cut { Files := F, Faults := d.Faults } name ((allM x.Data).2 : Int) = some ({ Files := modF (cuF ((allM x.Data).2 : Int)) name F, Faults := d.Faults }, 0) := by
   rw [Cut_eq hsz1]
   show some (if (look F name).isSome = true then _ else _) = _
   rw [hlk, hl]
   rfl
  rw [hcut, Option.bind_some]
  have hc : clampN ((allM x.Data).2 : Int) x.Data.length = (allM x.Data).2 := by unfold clampN; omega
  have hcu : cuF ((allM x.Data).2 : Int) x = { Name := x.Name, Data := x.Data.take n, Synced := (clampN x.Synced n : Int) } := by
   unfold cuF
   rw [hc, hnn]
  have hlg : look (modF (cuF ((allM x.Data).2 : Int)) name F) name = some (cuF ((allM x.Data).2 : Int) x) := by
   rw [look_modF (cuF ((allM x.Data).2 : Int)) (fun _ => rfl), if_pos rfl, hlk, hl]
   rfl
  have hsz2 : DSz { Files := modF (cuF ((allM x.Data).2 : Int)) name F, Faults := d.Faults } := ⟨by show (modF _ _ _).length < _; rw [modF_len]; omega, by show d.Faults.length < _; omega, fun y hy => by
   rcases modF_mem' hy with hy | ⟨z, hz, rfl⟩
   ·have := hb y (hFm y hy); omega
   ·have := hb z (hFm z hz)
    show (z.Data.take _).length < _
    rw [List.length_take]; omega⟩
  have hsafe : disk.Safe { Files := modF (cuF ((allM x.Data).2 : Int)) name F, Faults := d.Faults } name = some ((x.Data.take n).take (clampN x.Synced n)) := by
   rw [Safe_eq hsz2.f, hlg, hcu]
   show some ((x.Data.take n).take (clampN (clampN x.Synced n : Int) (x.Data.take n).length)) = _
   rw [List.length_take, show min n x.Data.length = n by omega, clampN_self]
  have hsl : ((x.Data.take n).take (clampN x.Synced n)).length = clampN x.Synced n := by
   have := clampN_le x.Synced n
   rw [List.length_take, List.length_take]; omega
  have hsync : disk.Sync { Files := modF (cuF ((allM x.Data).2 : Int)) name F, Faults := d.Faults } name = some (if (takeF name 2 d.Faults).1.isSome then ({ Files := modF (cuF ((allM x.Data).2 : Int)) name F, Faults := (takeF name 2 d.Faults).2 }, 15) else ({ Files := modF syF name (modF (cuF ((allM x.Data).2 : Int)) name F), Faults := (takeF name 2 d.Faults).2 }, 0)) := by
   rw [Sync_eq hsz2]
   show some (if (look (modF (cuF ((allM x.Data).2 : Int)) name F) name).isSome = true then _ else _) = _
   rw [hlg]
   rfl
  simp only []
  rw [if_pos trivial, hsafe, Option.bind_some, hsl, hsync]
  rw [← hnn]
  by_cases hlt : clampN x.Synced n < n
  ·rw [if_pos (show (clampN x.Synced n : Int) < (n : Int) by omega), if_pos hlt]
   by_cases hft : (takeF name 2 d.Faults).1.isSome = true
   ·rw [if_pos hft, if_pos hft]
    rfl
   ·rw [if_neg hft, if_neg hft]
    rfl
  ·rw [if_neg (show ¬ (clampN x.Synced n : Int) < (n : Int) by omega), if_neg hlt]
   rfl

/-- Loaded once more. -/
theorem load_again (G : List api.File) (fl : List api.Fault) (name s : List UInt8) (y : api.File) (hs : s.length ≤ 60000) (hG : ∀ x, x ∈ G → x.Name ≠ newN name) (hy : look G name = some y) (hd : y.Data = s.take (allM s).2) (hsy : y.Synced = ((allM s).2 : Int)) :
  loadM { Files := G, Faults := fl } name = ({ Files := G, Faults := fl }, (allM s).1, 0) := by
 obtain ⟨h1, h2, h3, h4⟩ := allM_le s hs
 have hfil : G.filter (notN (newN name)) = G := filter_none hG
 have ha : allM y.Data = allM s := by rw [hd]; exact allM_twice s hs
 have hyl : y.Data.length = (allM s).2 := by rw [hd, List.length_take]; omega
 have hcu : cuF ((allM s).2 : Int) y = y := by
  unfold cuF
  have c1 : clampN ((allM s).2 : Int) y.Data.length = y.Data.length := by rw [hyl]; unfold clampN; omega
  have c2 : clampN y.Synced y.Data.length = (allM s).2 := by rw [hsy, hyl]; unfold clampN; omega
  rw [c1, List.take_length, c2, ← hsy]
 unfold loadM
 show (match look G name with | none => _ | some x => _) = _
 rw [hy]
 show (if clampN y.Synced (allM y.Data).2 < (allM y.Data).2 then _ else (({ Files := modF (cuF (allM y.Data).2) name (G.filter (notN (newN name))), Faults := fl } : api.Disk), (allM y.Data).1, (0 : Int))) = _
 rw [ha, hfil, modF_id hy hcu, if_neg (by rw [hsy]; unfold clampN; omega)]

theorem eqFault_slf (a : List api.Fault) (h : a.length ≤ 1000000000000000) : slices.Equal_api_Fault a a = some true := by
 unfold slices.Equal_api_Fault
 rw [if_pos rfl]
 have : slices.Equal_api_Fault.loop0 a a ⟨0⟩ = some (.inl ()) := by
  unfold slices.Equal_api_Fault.loop0
  refine whileO_knownE ⟨0⟩ (fun i => (⟨(i : Int)⟩ : slices.Equal_api_Fault.S0)) a.length (fun i hi => ?_) ?_
  ·unfold slices.Equal_api_Fault.body0
   show (if (i : Int) < (a.length : Int) then _ else _) = _
   rw [if_pos (by omega), need_eq ⟨by show (0 : Int) ≤ (i : Int); omega, by show (i : Int) < (a.length : Int); omega⟩, need_eq ⟨by show (0 : Int) ≤ (i : Int); omega, by show (i : Int) < (a.length : Int); omega⟩, if_pos rfl]
   show some (Sum.inl (⟨IntKind.wrap .i64 ((i : Int) + 1)⟩ : slices.Equal_api_Fault.S0)) = _
   rw [i64w (by omega) (by omega), show (i : Int) + 1 = ((i + 1 : Nat) : Int) by omega]
  ·unfold slices.Equal_api_Fault.body0
   exact if_neg (by show ¬ (a.length : Int) < (a.length : Int); omega)
 rw [this]
 rfl
theorem Same_slf (d : api.Disk) (hd : d.Files.length < 1000000) (ht : d.Faults.length < 1000000) : disk.Same d d = some true := by
 obtain ⟨r, h1, h2⟩ := counting_ex d hd
 unfold disk.Same
 rw [h1, Option.bind_some, Option.bind_some, eqFile_self r (by omega), Option.bind_some, if_pos rfl, eqFault_slf _ (by omega)]
 rfl

theorem Bytes_eq (got : List api.Unit) (hl : got.length ≤ 60000) (hg : ∀ u, u ∈ got → mayM u.Cmds = true ∧ wtU u.Cmds ≤ 200000) (hr : (rowsM got).length ≤ 60000) : mewsref18.Bytes got = some (rowsM got, 0) := by
 have hloop : mewsref18.Bytes.loop0 got ⟨[], 0⟩ = some (.inl (rowsM got)) := by
  unfold mewsref18.Bytes.loop0
  have htk : ∀ i, (rowsM (got.take i)).length ≤ 60000 := fun i => by
   have := rowsM_append (got.take i) (got.drop i)
   rw [List.take_append_drop] at this
   have := congrArg List.length this
   rw [List.length_append] at this; omega
  refine whileO_knownE _ (fun i => (⟨rowsM (got.take i), (i : Int)⟩ : mewsref18.Bytes.S0)) got.length (fun i hi => ?_) ?_ rfl
  ·obtain ⟨h1, h2⟩ := hg _ (List.getElem_mem hi)
   have hrow : rowsM (got.take (i + 1)) = rowsM (got.take i) ++ unitM got[i].Cmds := by rw [List.take_add_one, List.getElem?_eq_getElem hi, rowsM_append]; simp [rowsM]
   have h3 := htk (i + 1)
   rw [hrow, List.length_append] at h3
   unfold mewsref18.Bytes.body0
   simp only []
   rw [if_pos (by omega), need_eq ⟨by omega, by omega⟩, ix_get hi, rPutU_eq _ (by omega), Option.bind_some]
   unfold putU
   rw [if_pos h1, if_pos rfl, need_eq (show (rowsM (got.take i)).length + (unitM got[i].Cmds).length ≤ 9223372036854775807 by omega), i64w (by omega) (by omega), hrow]
   rfl
  ·unfold mewsref18.Bytes.body0
   simp only []
   rw [if_neg (by omega), List.take_length]
 unfold mewsref18.Bytes
 rw [hloop]
 rfl

end Go.Pu

set_option maxHeartbeats 0
set_option maxRecDepth 100000
namespace Go.Pu
open Go.Lift

theorem fits_wt {l : Cmds} (h : wtU l ≤ 1000000000) : FitsC l := fits_of_wt h

/-- A text, and one of its beginnings behind it: the first unit alone is told. -/
theorem allM_part {c : Cmds} (hm : mayM c = true) (hp : (putL c).length ≤ 4194304) (k : Nat) (hk : k < (unitM c).length) : allM (unitM c ++ (unitM c).take k) = ([{ Cmds := c }], (unitM c).length) := by
 obtain ⟨k', h⟩ := allN_rows [{ Cmds := c }] ((unitM c ++ (unitM c).take k).length + 1) ((unitM c).take k) (fun u hu => by
  obtain rfl : u = { Cmds := c } := by simpa using hu
  exact ⟨hm, hp⟩) (by simp [rowsM])
 have e : rowsM [{ Cmds := c }] = unitM c := by simp [rowsM]
 rw [e] at h
 have h2 : allN k' ((unitM c).take k) = ([], 0) := by
  cases k' with
  | zero => rfl
  | succ k' =>
   show (if (takeM ((unitM c).take k)).2.2 = 0 then _ else _) = _
   rw [take_cut hp k hk]
   rfl
 unfold allM
 rw [h, h2]
 simp

theorem alive18 : mewslaw18.alive = some true := by
 obtain ⟨c, hc⟩ : ∃ c : Cmds, c = [[[80, 73, 78, 71]]] := ⟨_, rfl⟩
 have hw : wtU c ≤ 300000 := by rw [hc]; decide
 have hm : mayM c = true := by rw [hc]; decide
 have hp : (putL c).length = 14 := by rw [hc]; decide +kernel
 have hl : (unitM c).length = 23 := by rw [unitM_len, hp]
 have hput : unit.Put { Cmds := c } = some (unitM c, 0) := by
  rw [PutU_eq _ hw]
  unfold putU
  rw [if_pos hm]
 unfold mewslaw18.alive
 rw [← hc, hput, Option.bind_some, if_pos (by show ((unitM c).length : Int) = 23; omega), need_eq ⟨by omega, by omega, by show (9 : Int) ≤ ((unitM c).length : Int); omega⟩]
 have hsub : sub (unitM c) 0 9 = (unitM c).take 9 := by rw [sub_zero]; rfl
 show (need ((unitM c).length + (sub (unitM c) 0 9).length ≤ 9223372036854775807) ((restore.Load { Files := [{ Name := [102], Data := unitM c ++ sub (unitM c) 0 9, Synced := 0 }, { Name := [102, 46, 110, 101, 119], Data := [120], Synced := 0 }], Faults := [] } [102]).bind _)) = _
 rw [hsub, need_eq (by rw [List.length_take]; omega)]
 have hall := allM_part hm (by omega) 9 (by omega)
 obtain ⟨x, hx⟩ : ∃ x : api.File, x = { Name := [102], Data := unitM c ++ (unitM c).take 9, Synced := 0 } := ⟨_, rfl⟩
 have hxl : x.Data.length = 32 := by rw [hx]; show (unitM c ++ (unitM c).take 9).length = 32; rw [List.length_append, List.length_take]; omega
 have hload : restore.Load { Files := [x, { Name := [102, 46, 110, 101, 119], Data := [120], Synced := 0 }], Faults := [] } [102] = some ({ Files := [{ Name := [102], Data := unitM c, Synced := 23 }], Faults := [] }, [{ Cmds := c }], 0) := by
  rw [Load_eq _ _ (by show 2 < 1000000; omega) (by show 0 < 1000000; omega) (fun y hy => by
   simp only [List.mem_cons, List.not_mem_nil, or_false] at hy
   rcases hy with rfl | rfl
   ·omega
   ·show 1 ≤ 60000; omega) (by show 1 < 1000000; omega)]
  have hlk : look [x, { Name := [102, 46, 110, 101, 119], Data := [120], Synced := 0 }] [102] = some x := by
   refine look_mid (a := []) ?_ (by simp)
   rw [hx]
  have hfil : [x, ({ Name := [102, 46, 110, 101, 119], Data := [120], Synced := 0 } : api.File)].filter (notN (newN [102])) = [x] := by
   rw [hx]; rfl
  have hxd : allM x.Data = ([{ Cmds := c }], 23) := by rw [hx, ← hl]; exact hall
  unfold loadM
  show some (match look [x, ({ Name := [102, 46, 110, 101, 119], Data := [120], Synced := 0 } : api.File)] [102] with | none => _ | some x => _) = _
  rw [hlk]
  show some (if clampN x.Synced (allM x.Data).2 < (allM x.Data).2 then (({ Files := modF syF [102] (modF (cuF (allM x.Data).2) [102] ([x, ({ Name := [102, 46, 110, 101, 119], Data := [120], Synced := 0 } : api.File)].filter (notN (newN [102])))), Faults := [] } : api.Disk), (allM x.Data).1, (0 : Int)) else _) = _
  rw [hxd, hfil, if_pos (by rw [hx]; show clampN 0 23 < 23; decide)]
  have e1 : modF (cuF ((23 : Nat) : Int)) [102] [x] = [cuF ((23 : Nat) : Int) x] := modF_mid (a := []) (b := []) (by rw [hx]) (by simp)
  have e2 : modF syF [102] [cuF ((23 : Nat) : Int) x] = [syF (cuF ((23 : Nat) : Int) x)] := modF_mid (a := []) (b := []) (by rw [hx]; rfl) (by simp)
  have e3 : syF (cuF ((23 : Nat) : Int) x) = { Name := [102], Data := unitM c, Synced := 23 } := by
   have hcl : clampN ((23 : Nat) : Int) x.Data.length = 23 := by rw [hxl]; decide
   have hd : x.Data.take 23 = unitM c := by rw [hx, ← hl]; exact List.take_left
   unfold cuF syF
   simp only []
   rw [hcl, hd, hl, hx]
   rfl
  rw [e1, e2, e3]
 rw [← hx, hload, Option.bind_some]
 show (((disk.Same { Files := [{ Name := [102], Data := unitM c, Synced := 23 }], Faults := [] } { Files := [{ Name := [102], Data := unitM c, Synced := 23 }], Faults := [] }).bind fun r41 => if r41 = true then (restore.Other [102]).bind fun r43 => some (decide (r43 = [102, 46, 110, 101, 119])) else some false).bind fun s35 => some s35) = _
 rw [Same_slf _ (by show 1 < 1000000; omega) (by show 0 < 1000000; omega)]
 decide

theorem RestoreTwice_pure (d : api.Disk) (name : List UInt8) (hd : d.Files.length < 1000000000000000) : mewslaw18.RestoreTwice d name = some true := by
 obtain ⟨b, hF, hF2⟩ := Far16_eq d [] hd (by simp)
 unfold mewslaw18.RestoreTwice
 rw [hF, Option.bind_some, alive18]
 cases b with
 | true => rfl
 | false =>
  obtain ⟨hs, _⟩ := hF2 rfl
  rw [if_neg (by decide), Option.bind_some]
  by_cases hbig : 200 < (name.length : Int)
  ·rw [decide_eq_true hbig]; rfl
  ·rw [decide_eq_false hbig, if_neg (by decide)]
   have hf := hs.f
   have ht := hs.t
   rw [Load_eq d name (by omega) (by omega) (fun x hx => by have := (hs.b x hx).1; omega) (by omega), Option.bind_some]
   -- what is loaded
   have key : (loadM d name).2.2 ≠ 0 ∧ (loadM d name).2.1 = [] ∨ ∃ (G : List api.File) (fl : List api.Fault) (l : List api.Unit) (r : List UInt8), loadM d name = ({ Files := G, Faults := fl }, l, 0) ∧ loadM { Files := G, Faults := fl } name = ({ Files := G, Faults := fl }, l, 0) ∧ G.length ≤ 40 ∧ fl.length ≤ 100 ∧ (∀ x, x ∈ G → x.Data.length ≤ 60000) ∧ mewsref18.Bytes l = some (r, 0) ∧ disk.Safe { Files := G, Faults := fl } name = some r ∧ l.length ≤ 60000 ∧ (∀ u, u ∈ l → wtU u.Cmds ≤ 200000) := by
    have hfl := List.length_filter_le (notN (newN name)) d.Files
    have hnm : ∀ x, x ∈ d.Files.filter (notN (newN name)) → x.Name ≠ newN name := fun x hx e => by
     have := (List.mem_filter.1 hx).2
     unfold notN at this
     rw [isN_iff.2 e] at this
     cases this
    cases hl : look d.Files name with
    | none =>
     refine .inr ⟨d.Files.filter (notN (newN name)), d.Faults, [], [], ?_, ?_, by omega, ht, fun x hx => ?_, Bytes_eq [] (by simp) (by simp) (by simp [rowsM]), ?_, by simp, by simp⟩
     ·unfold loadM; rw [hl]
     ·unfold loadM
      show (match look (d.Files.filter (notN (newN name))) name with | none => _ | some x => _) = _
      rw [look_new, hl]
      show (({ Files := (d.Files.filter (notN (newN name))).filter (notN (newN name)), Faults := d.Faults } : api.Disk), ([] : List api.Unit), (0 : Int)) = _
      rw [filter_none hnm]
     ·have := (hs.b x (List.mem_filter.1 hx).1).1; omega
     ·rw [Safe_eq (by show (d.Files.filter _).length < _; omega)]
      show some (match look (d.Files.filter (notN (newN name))) name with | some x => x.Data.take (clampN x.Synced x.Data.length) | none => []) = _
      rw [look_new, hl]
    | some x =>
     have hx : x.Data.length ≤ 60000 := by have := (hs.b x (List.mem_of_find?_eq_some hl)).1; omega
     obtain ⟨h1, h2, h3, h4⟩ := allM_le x.Data hx
     obtain ⟨n, hn⟩ : ∃ n, n = (allM x.Data).2 := ⟨_, rfl⟩
     have hc : clampN ((n : Nat) : Int) x.Data.length = n := by unfold clampN; omega
     have hcu : cuF ((n : Nat) : Int) x = { Name := x.Name, Data := x.Data.take n, Synced := (clampN x.Synced n : Int) } := by
      unfold cuF
      rw [hc]
     have hr : (rowsM (allM x.Data).1).length ≤ 60000 := by rw [← h2, List.length_take]; omega
     have hlg : look (modF (cuF ((n : Nat) : Int)) name (d.Files.filter (notN (newN name)))) name = some (cuF ((n : Nat) : Int) x) := by
      rw [look_modF (cuF ((n : Nat) : Int)) (fun _ => rfl), if_pos rfl, look_new, hl]
      rfl
     have hG1 : ∀ z, z ∈ modF (cuF ((n : Nat) : Int)) name (d.Files.filter (notN (newN name))) → z.Name ≠ newN name ∧ z.Data.length ≤ 60000 := fun z hz => by
      rcases modF_mem' hz with hz | ⟨w, hw, rfl⟩
      ·exact ⟨hnm z hz, by have := (hs.b z (List.mem_filter.1 hz).1).1; omega⟩
      ·refine ⟨hnm w hw, ?_⟩
       have := (hs.b w (List.mem_filter.1 hw).1).1
       show (w.Data.take _).length ≤ _
       rw [List.length_take]; omega
     have hlm : loadM d name = (if clampN x.Synced n < n then if (takeF name 2 d.Faults).1.isSome then (({ Files := modF (cuF ((n : Nat) : Int)) name (d.Files.filter (notN (newN name))), Faults := (takeF name 2 d.Faults).2 } : api.Disk), ([] : List api.Unit), (15 : Int)) else ({ Files := modF syF name (modF (cuF ((n : Nat) : Int)) name (d.Files.filter (notN (newN name)))), Faults := (takeF name 2 d.Faults).2 }, (allM x.Data).1, 0) else ({ Files := modF (cuF ((n : Nat) : Int)) name (d.Files.filter (notN (newN name))), Faults := d.Faults }, (allM x.Data).1, 0)) := by
      rw [hn]
      unfold loadM
      rw [hl]
     have hsafe : ∀ (G : List api.File) (fl : List api.Fault) (y : api.File), G.length ≤ 40 → look G name = some y → y.Data = x.Data.take n → y.Synced = (n : Int) → disk.Safe { Files := G, Faults := fl } name = some (rowsM (allM x.Data).1) := fun G fl y hG hy hyd hys => by
      rw [Safe_eq (by show G.length < _; omega)]
      show some (match look G name with | some x => x.Data.take (clampN x.Synced x.Data.length) | none => []) = _
      rw [hy]
      have e : clampN y.Synced y.Data.length = n := by rw [hys, hyd, List.length_take]; unfold clampN; omega
      show some (y.Data.take (clampN y.Synced y.Data.length)) = _
      rw [e, hyd, List.take_take, Nat.min_self, hn, h2]
     by_cases hlt : clampN x.Synced n < n
     ·rw [if_pos hlt] at hlm
      by_cases hft : (takeF name 2 d.Faults).1.isSome = true
      ·rw [if_pos hft] at hlm
       left
       rw [hlm]
       exact ⟨by show (15 : Int) ≠ 0; decide, rfl⟩
      ·rw [if_neg hft] at hlm
       right
       have hly : look (modF syF name (modF (cuF ((n : Nat) : Int)) name (d.Files.filter (notN (newN name))))) name = some (syF (cuF ((n : Nat) : Int) x)) := by
        rw [look_modF syF (fun _ => rfl), if_pos rfl, hlg]
        rfl
       have hyd : (syF (cuF ((n : Nat) : Int) x)).Data = x.Data.take n := by rw [hcu]; rfl
       have hys : (syF (cuF ((n : Nat) : Int) x)).Synced = (n : Int) := by
        rw [hcu]
        show ((x.Data.take n).length : Int) = n
        rw [List.length_take]; omega
       have hG2 : ∀ z, z ∈ modF syF name (modF (cuF ((n : Nat) : Int)) name (d.Files.filter (notN (newN name)))) → z.Name ≠ newN name ∧ z.Data.length ≤ 60000 := fun z hz => by
        rcases modF_mem' hz with hz | ⟨w, hw, rfl⟩
        ·exact hG1 z hz
        ·exact hG1 w hw
       have hgl : (modF syF name (modF (cuF ((n : Nat) : Int)) name (d.Files.filter (notN (newN name))))).length ≤ 40 := by rw [modF_len, modF_len]; omega
       have htl := takeF_len name 2 d.Faults
       exact ⟨_, _, _, _, hlm, load_again _ _ name x.Data _ hx (fun z hz => (hG2 z hz).1) hly (by rw [← hn]; exact hyd) (by rw [← hn]; exact hys), hgl, by omega, fun z hz => (hG2 z hz).2, Bytes_eq _ (by omega) h3 hr, hsafe _ _ _ hgl hly hyd hys, by omega, fun u hu => (h3 u hu).2⟩
     ·rw [if_neg hlt] at hlm
      right
      have hyd : (cuF ((n : Nat) : Int) x).Data = x.Data.take n := by rw [hcu]
      have hys : (cuF ((n : Nat) : Int) x).Synced = (n : Int) := by
       rw [hcu]
       show (clampN x.Synced n : Int) = n
       have := clampN_le x.Synced n
       omega
      have hgl : (modF (cuF ((n : Nat) : Int)) name (d.Files.filter (notN (newN name)))).length ≤ 40 := by rw [modF_len]; omega
      exact ⟨_, _, _, _, hlm, load_again _ _ name x.Data _ hx (fun z hz => (hG1 z hz).1) hlg (by rw [← hn]; exact hyd) (by rw [← hn]; exact hys), hgl, ht, fun z hz => (hG1 z hz).2, Bytes_eq _ (by omega) h3 hr, hsafe _ _ _ hgl hlg hyd hys, by omega, fun u hu => (h3 u hu).2⟩
   rcases key with ⟨k1, k2⟩ | ⟨G, fl, l, r, k1, k2, k3, k4, k5, k6, k7, k8, k9⟩
   ·rw [if_neg k1, k2]
    rfl
   ·rw [k1]
    show ((restore.Load { Files := G, Faults := fl } name).bind fun r66 => (mewsref18.Bytes l).bind _) = _
    rw [Load_eq { Files := G, Faults := fl } name (by show G.length < _; omega) (by show fl.length < _; omega) k5 (by omega), Option.bind_some, k2, k6, Option.bind_some]
    show ((((mewsref15.SameAll l l).bind fun r83 => if r83 = true then (disk.Same { Files := G, Faults := fl } { Files := G, Faults := fl }).bind fun r85 => if r85 = true then ((disk.Safe { Files := G, Faults := fl } name).bind fun r88 => if r88 = r then (some true).bind (fun r90 => some r90) else some false) else some false else some false) : Option Bool).bind fun s79 => some s79) = _
    rw [SameAll_self l (by omega) (fun u hu => fits_wt (by have := k9 u hu; omega)), Option.bind_some, if_pos rfl, Same_slf _ (by show G.length < _; omega) (by show fl.length < _; omega), Option.bind_some, if_pos rfl, k7, Option.bind_some, if_pos rfl]
    rfl

end Go.Pu

namespace Go.Pu.Pure
open Go.Lift Go.Pu
theorem RestoreTwice {a0 : api.Disk} {a1 : List UInt8} (h0 : api.Disk.wf a0) (h1 : a1.length ≤ 140737488351232) : mewslaw18.RestoreTwice a0 a1 = some true :=
 RestoreTwice_pure a0 a1 (by have := h0.1.1; omega)
end Go.Pu.Pure
