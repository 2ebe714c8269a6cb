import Derived.Test.YtlidepjlhmaldaaDPPuDisk9
set_option maxHeartbeats 0
set_option maxRecDepth 100000
namespace Go.Pu
open Go.Lift

theorem step16 {n : Nat} {d r : api.Disk} (h : Rl d r) (hd : BD n d) (hr : BD n r) (o : mewslaw16.Op) (hs : o.S.length ≤ 5000) (hn : n + 5001 ≤ 800000) :
  ∃ d' r' m e, mewslaw16.does d o = some (d', m, e) ∧ mewslaw16.did r o = some (r', m, e) ∧ Rl d' r' ∧ BD (n + 5001) d' ∧ BD (n + 5001) r' := by
 unfold mewslaw16.does mewslaw16.did
 have mn : ∀ {x : api.Disk}, BD (n + 1) x → BD (n + 5001) x := fun hx => hx.mono (by omega)
 by_cases h0 : o.Kind = 0
 ·rw [if_pos h0, if_pos h0]
  obtain ⟨d', r', m, e, e1, e2, e3, e4, e5⟩ := Write_step h hd hr o.Name o.S (by omega)
  rw [e1, e2]
  exact ⟨d', r', m, e, rfl, rfl, e3, e4.mono (by omega), e5.mono (by omega)⟩
 rw [if_neg h0, if_neg h0]
 by_cases h1 : o.Kind = 1
 ·rw [if_pos h1, if_pos h1]
  obtain ⟨d', r', e, e1, e2, e3, e4, e5⟩ := Sync_step h hd hr o.Name (by omega)
  rw [e1, e2]
  exact ⟨d', r', 0, e, rfl, rfl, e3, mn e4, mn e5⟩
 rw [if_neg h1, if_neg h1]
 by_cases h2 : o.Kind = 2
 ·rw [if_pos h2, if_pos h2]
  obtain ⟨d', r', e, e1, e2, e3, e4, e5⟩ := Rename_step h hd hr o.Name o.S (by omega)
  rw [e1, e2]
  exact ⟨d', r', 0, e, rfl, rfl, e3, mn e4, mn e5⟩
 rw [if_neg h2, if_neg h2]
 by_cases h3 : o.Kind = 3
 ·rw [if_pos h3, if_pos h3]
  obtain ⟨d', r', e1, e2, e3, e4, e5⟩ := Remove_step h hd hr o.Name (by omega)
  rw [e1, e2]
  exact ⟨d', r', 0, 0, rfl, rfl, e3, mn e4, mn e5⟩
 rw [if_neg h3, if_neg h3]
 by_cases h4 : o.Kind = 4
 ·rw [if_pos h4, if_pos h4]
  obtain ⟨d', r', e, e1, e2, e3, e4, e5⟩ := Cut_step h hd hr o.Name o.N (by omega)
  rw [e1, e2]
  exact ⟨d', r', 0, e, rfl, rfl, e3, mn e4, mn e5⟩
 rw [if_neg h4, if_neg h4]
 by_cases h5 : o.Kind = 5
 ·rw [if_pos h5, if_pos h5]
  obtain ⟨d', r', e1, e2, e3, e4, e5⟩ := Crash_step h hd hr [({ Name := o.Name, Bytes := o.N } : api.Keep), ({ Name := o.Name, Bytes := 1 } : api.Keep)] (by show 2 < 1000000; omega) (by omega)
  rw [e1, e2]
  exact ⟨d', r', 0, 0, rfl, rfl, e3, mn e4, mn e5⟩
 rw [if_neg h5, if_neg h5]
 have hdt := hd.t
 have hrt := hr.t
 have f : ∀ {x : api.Disk}, x.Faults.length ≤ n → mewslaw16.faulty x o = some { x with Faults := x.Faults ++ [({ Name := o.Name, Kind := IntKind.wrap .i64 (o.Kind - 5), Short := o.N } : api.Fault)] } := fun {x} hx => by
  unfold mewslaw16.faulty
  show need ((0 + x.Faults.length) * 32 ≤ 140737488355328) (need ((x.Faults.length + 1) * 32 ≤ 140737488355328) _) = _
  rw [need_eq (by omega), need_eq (by omega)]
  rfl
 have g : ∀ {x : api.Disk}, BD n x → BD (n + 1) { x with Faults := x.Faults ++ [({ Name := o.Name, Kind := IntKind.wrap .i64 (o.Kind - 5), Short := o.N } : api.Fault)] } := fun {x} hx => by
  refine ⟨Nat.le_trans hx.f (by omega), ?_, fun y hy => Nat.le_trans (hx.b y hy) (by omega)⟩
  show (x.Faults ++ [_]).length ≤ _
  have := hx.t
  rw [List.length_append, List.length_singleton]; omega
 rw [f hdt, f hrt]
 exact ⟨_, _, 0, 0, rfl, rfl, ⟨h.m, by show d.Faults ++ _ = r.Faults ++ _; rw [h.t]⟩, mn (g hd), mn (g hr)⟩

theorem cnt_mem_iff {l : List api.File} {x : api.File} : x ∈ cnt l ↔ mm l x.Name = some x := by
 constructor
 ·intro h
  have := look_nodup (cnt_nodup l) h
  rwa [look_cnt_mm] at this
 ·intro h
  rw [← look_cnt_mm] at h
  exact (look_some h).1

theorem cnt_nodup' (l : List api.File) : (cnt l).Nodup := by
 have := cnt_nodup l
 exact (List.pairwise_map.1 this).imp fun {a b} h e => h (congrArg _ e)

theorem cnt_perm {d r : api.Disk} (h : Rl d r) : (cnt d.Files).Perm (cnt r.Files) :=
 (List.perm_ext_iff_of_nodup (cnt_nodup' _) (cnt_nodup' _)).2 fun x => by rw [cnt_mem_iff, cnt_mem_iff, h.m]

theorem RSame_eq {n : Nat} {d r : api.Disk} (h : Rl d r) (hd : BD n d) (hr : BD n r) (hn : n ≤ 800000) : mewsref16.Same d r = some true := by
 have hdf := hd.f
 have hrf := hr.f
 have hdt := hd.t
 have hcd := cnt_len d.Files
 have hpl := (cnt_perm h).length_eq
 have l0 : mewsref16.Same.loop0 (cnt d.Files) r ⟨0⟩ = some (.inl ()) := by
  unfold mewsref16.Same.loop0
  refine whileO_knownE ⟨0⟩ (fun i => (⟨(i : Int)⟩ : mewsref16.Same.S0)) (cnt d.Files).length (fun i hi => ?_) ?_
  ·unfold mewsref16.Same.body0
   have hin : InB (i : Int) (cnt d.Files).length := ⟨by omega, by omega⟩
   show (if (i : Int) < ((cnt d.Files).length : Int) then _ else _) = _
   rw [if_pos (by omega)]
   have hx : mm r.Files (cnt d.Files)[i].Name = some (cnt d.Files)[i] := by rw [← h.m]; exact cnt_mem_iff.1 (List.getElem_mem hi)
   show need (InB (i : Int) (cnt d.Files).length) ((mewsref16.Find r (ix (cnt d.Files) (i : Int)).Name).bind _) = _
   rw [need_eq hin, RFind_eq (by omega), Option.bind_some, ix_get hi, lookR_mm, hx]
   show ((need (InB (i : Int) (cnt d.Files).length) (some (!decide ((cnt d.Files)[i] = (cnt d.Files)[i])))).bind _) = _
   rw [need_eq hin, decide_eq_true rfl, Option.bind_some]
   show some (Sum.inl (⟨IntKind.wrap .i64 ((i : Int) + 1)⟩ : mewsref16.Same.S0)) = _
   rw [i64w (by omega) (by omega), show (i : Int) + 1 = ((i + 1 : Nat) : Int) by omega]
  ·unfold mewsref16.Same.body0
   exact if_neg (by show ¬ ((cnt d.Files).length : Int) < ((cnt d.Files).length : Int); omega)
 have l2 : mewsref16.Same.loop2 d r ⟨0⟩ = some (.inl ()) := by
  unfold mewsref16.Same.loop2
  refine whileO_knownE ⟨0⟩ (fun i => (⟨(i : Int)⟩ : mewsref16.Same.S2)) d.Faults.length (fun i hi => ?_) ?_
  ·unfold mewsref16.Same.body2
   show (if (i : Int) < (d.Faults.length : Int) then _ else _) = _
   rw [if_pos (by omega)]
   show need (InB (i : Int) d.Faults.length) (need (InB (i : Int) r.Faults.length) (if (ix d.Faults (i : Int)) = (ix r.Faults (i : Int)) then _ else _)) = _
   rw [← h.t, need_eq ⟨by omega, by omega⟩, need_eq ⟨by omega, by omega⟩, if_pos rfl]
   show some (Sum.inl (⟨IntKind.wrap .i64 ((i : Int) + 1)⟩ : mewsref16.Same.S2)) = _
   rw [i64w (by omega) (by omega), show (i : Int) + 1 = ((i + 1 : Nat) : Int) by omega]
  ·unfold mewsref16.Same.body2
   exact if_neg (by show ¬ (d.Faults.length : Int) < (d.Faults.length : Int); omega)
 unfold mewsref16.Same
 rw [Files_eq (by omega), Option.bind_some, Files_eq (by omega), Option.bind_some, hpl, if_pos rfl, ← h.t, decide_eq_true rfl]
 show ((mewsref16.Same.loop0 (cnt d.Files) r ⟨0⟩).bind _) = _
 rw [l0, Option.bind_some]
 show ((mewsref16.Same.loop2 d r ⟨0⟩).bind _) = _
 rw [l2]
 rfl

theorem counting_eq (d : api.Disk) (hd : d.Files.length < 1000000) : disk.counting d = some ((cnt d.Files).mergeSort fun a b => !strLt b.Name a.Name) := by
 have hl := cnt_len d.Files
 unfold disk.counting
 rw [counting_loop d hd, Option.bind_some]
 show ((slices.SortFunc_api_File (cnt d.Files)).bind _) = _
 unfold slices.SortFunc_api_File
 rw [need_eq ⟨by omega, cnt_nodup d.Files⟩]
 rfl

theorem sort_alike {a b : List api.File} (h : a.Perm b) (hn : (a.map (·.Name)).Nodup) : (a.mergeSort fun a b => !strLt b.Name a.Name) = b.mergeSort fun a b => !strLt b.Name a.Name := by
 have tr : ∀ a b c : api.File, (!strLt b.Name a.Name) = true → (!strLt c.Name b.Name) = true → (!strLt c.Name a.Name) = true := fun a b c h1 h2 => by
  simp only [Bool.not_eq_true'] at *
  rcases strLt_tri a.Name b.Name with h | h | h
  ·rw [h]; exact h2
  ·rcases strLt_tri b.Name c.Name with h' | h' | h'
   ·rw [← h']; exact strLt_asymm h
   ·exact strLt_asymm (strLt_trans h h')
   ·rw [h'] at h2; cases h2
  ·rw [h] at h1; cases h1
 have tot : ∀ a b : api.File, ((!strLt b.Name a.Name) || (!strLt a.Name b.Name)) = true := fun a b => by
  rcases strLt_tri a.Name b.Name with h | h | h
  ·rw [h, strLt_irrefl]; rfl
  ·rw [strLt_asymm h]; rfl
  ·rw [strLt_asymm h, Bool.not_false, Bool.or_true]
 have p1 := List.mergeSort_perm a fun a b => !strLt b.Name a.Name
 have p2 := List.mergeSort_perm b fun a b => !strLt b.Name a.Name
 refine List.Perm.eq_of_pairwise (fun x y hx hy h1 h2 => ?_) (List.pairwise_mergeSort (le := fun a b : api.File => !strLt b.Name a.Name) tr tot a) (List.pairwise_mergeSort (le := fun a b : api.File => !strLt b.Name a.Name) tr tot b) (p1.trans (h.trans p2.symm))
 have hx' := p1.mem_iff.1 hx
 have hy' := h.symm.mem_iff.1 (p2.mem_iff.1 hy)
 have he : x.Name = y.Name := by
  simp only [Bool.not_eq_true'] at h1 h2
  rcases strLt_tri x.Name y.Name with h | h | h
  ·exact h
  ·rw [h] at h2; cases h2
  ·rw [h] at h1; cases h1
 have e1 := look_nodup hn hx'
 have e2 := look_nodup hn hy'
 rw [he, e2] at e1
 exact (Option.some.inj e1).symm

theorem eqFault_self (a : List api.Fault) (h : a.length ≤ 1000000000000000) : slices.Equal_api_Fault a a = some true := by
 unfold slices.Equal_api_Fault
 rw [if_pos rfl]
 have : slices.Equal_api_Fault.loop0 a a ⟨0⟩ = some (.inl ()) := by
  unfold slices.Equal_api_Fault.loop0
  refine whileO_knownE ⟨0⟩ (fun i => (⟨(i : Int)⟩ : slices.Equal_api_Fault.S0)) a.length (fun i hi => ?_) ?_
  ·unfold slices.Equal_api_Fault.body0
   show (if (i : Int) < (a.length : Int) then _ else _) = _
   rw [if_pos (by omega), need_eq ⟨by show (0 : Int) ≤ (i : Int); omega, by show (i : Int) < (a.length : Int); omega⟩, need_eq ⟨by show (0 : Int) ≤ (i : Int); omega, by show (i : Int) < (a.length : Int); omega⟩, if_pos rfl]
   show some (Sum.inl (⟨IntKind.wrap .i64 ((i : Int) + 1)⟩ : slices.Equal_api_Fault.S0)) = _
   rw [i64w (by omega) (by omega), show (i : Int) + 1 = ((i + 1 : Nat) : Int) by omega]
  ·unfold slices.Equal_api_Fault.body0
   exact if_neg (by show ¬ (a.length : Int) < (a.length : Int); omega)
 rw [this]
 rfl

theorem DSame_eq {n : Nat} {d r : api.Disk} (h : Rl d r) (hd : BD n d) (hr : BD n r) (hn : n ≤ 800000) : disk.Same d r = some true := by
 have hdf := hd.f
 have hrf := hr.f
 have hdt := hd.t
 have hcd := cnt_len d.Files
 unfold disk.Same
 rw [counting_eq d (by omega), Option.bind_some, counting_eq r (by omega), Option.bind_some, ← sort_alike (cnt_perm h) (cnt_nodup _), eqFile_self _ (by rw [List.length_mergeSort]; omega), Option.bind_some, if_pos rfl, ← h.t, eqFault_self _ (by omega)]
 rfl

def rdM (o : Option api.File) : List UInt8 × Int := match o with | some x => (x.Data, 0) | none => ([], 8)
theorem Read_eq' {d : api.Disk} (h : d.Files.length < 1000000000) (name : List UInt8) : disk.Read d name = some (rdM (look d.Files name)) := by
 rw [Read_eq h]
 cases look d.Files name <;> rfl

theorem DiskPlays_pure (d : api.Disk) (l : List mewslaw16.Op) (hd : d.Files.length < 1000000000000000) (hl : l.length < 1000000000000000) : mewslaw16.DiskPlays d l = some true := by
 obtain ⟨b, hF, hF2⟩ := Far16_eq d l hd hl
 unfold mewslaw16.DiskPlays
 rw [hF, Option.bind_some, alive16]
 cases b with
 | true => rfl
 | false =>
  obtain ⟨hs, hl100, hops⟩ := hF2 rfl
  rw [if_neg (by decide)]
  have hbd : BD 5000 d := ⟨by have := hs.f; omega, by have := hs.t; omega, fun x hx => (hs.b x hx).1⟩
  suffices hloop : mewslaw16.DiskPlays.loop0 l ⟨0, d.Files, d.Faults, d.Files, d.Faults⟩ = some (.inl ()) by
   rw [hloop]; rfl
  have hone : ∀ (i : Nat) (hi : i < l.length) (d r : api.Disk), Rl d r → BD (5000 + i * 5001) d → BD (5000 + i * 5001) r → ∃ d' r', mewslaw16.DiskPlays.body0 l ⟨(i : Int), d.Files, d.Faults, r.Files, r.Faults⟩ = some (.inl ⟨((i + 1 : Nat) : Int), d'.Files, d'.Faults, r'.Files, r'.Faults⟩) ∧ Rl d' r' ∧ BD (5000 + (i + 1) * 5001) d' ∧ BD (5000 + (i + 1) * 5001) r' := by
   intro i hi d r h hd hr
   obtain ⟨d', r', m, e, e1, e2, h', hd', hr'⟩ := step16 h hd hr l[i] (hops _ (List.getElem_mem hi)).1 (by omega)
   have hd' : BD (5000 + (i + 1) * 5001) d' := hd'.mono (by omega)
   have hr' : BD (5000 + (i + 1) * 5001) r' := hr'.mono (by omega)
   refine ⟨d', r', ?_, h', hd', hr'⟩
   have hdf := hd'.f
   have hrf := hr'.f
   unfold mewslaw16.DiskPlays.body0
   show (if (i : Int) < (l.length : Int) then _ else _) = _
   rw [if_pos (by omega)]
   show ((need (InB (i : Int) l.length) ((mewslaw16.does d (ix l (i : Int))).bind fun r2241 => (mewslaw16.did r (ix l (i : Int))).bind _)).bind _) = _
   rw [need_eq ⟨by omega, by omega⟩, ix_get hi, e1, Option.bind_some, e2, Option.bind_some, Read_eq' (by show d'.Files.length < _; omega), Option.bind_some, RFind_eq (by show r'.Files.length < _; omega), Option.bind_some]
   obtain ⟨nm, hnm⟩ : ∃ nm, nm = l[i].Name := ⟨_, rfl⟩
   rw [← hnm]
   have hmm := h'.m nm
   dsimp only
   have hX : ((if m = m then if e = e then (mewsref16.Same d' r').bind fun r2267 => if (!r2267) = true then some true else (disk.Same d' r').bind fun r2269 => if (!r2269) = true then some true else if (rdM (look d'.Files nm)).1 = (lookR r'.Files nm).1.Data then if (!((decide ((rdM (look d'.Files nm)).2 = 0)) == (lookR r'.Files nm).2)) = true then some true else if (rdM (look d'.Files nm)).2 = 0 then (disk.Safe d' nm).bind fun r2277 => need (InR 0 (lookR r'.Files nm).1.Synced (lookR r'.Files nm).1.Data.length) (some (!decide (r2277 = (sub (lookR r'.Files nm).1.Data 0 (lookR r'.Files nm).1.Synced)))) else if (rdM (look d'.Files nm)).2 = 8 then (disk.Safe d' nm).bind fun r2275 => need (InR 0 (lookR r'.Files nm).1.Synced (lookR r'.Files nm).1.Data.length) (some (!decide (r2275 = (sub (lookR r'.Files nm).1.Data 0 (lookR r'.Files nm).1.Synced)))) else some true else some true else some true else some true) : Option Bool) = some false := by
    rw [if_pos rfl, if_pos rfl]
    rw [RSame_eq h' hd' hr' (by omega), Option.bind_some, if_neg (by decide)]
    rw [DSame_eq h' hd' hr' (by omega), Option.bind_some, if_neg (by decide), Safe_eq (by omega), lookR_mm, ← hmm]
    unfold mm
    cases look d'.Files nm with
    | none => rfl
    | some x =>
     have hc := clampN_le x.Synced x.Data.length
     show (if x.Data = x.Data then if (!(decide ((0 : Int) = 0) == true)) = true then some true else if (0 : Int) = 0 then need (InR 0 (clampN x.Synced x.Data.length : Int) x.Data.length) (some (!decide (x.Data.take (clampN x.Synced x.Data.length) = sub x.Data 0 (clampN x.Synced x.Data.length : Int)))) else _ else some true) = _
     rw [if_pos rfl, if_neg (by decide), if_pos rfl, need_eq ⟨by omega, by omega, by omega⟩, sub0, decide_eq_true rfl]
     rfl
   rw [hX]
   rw [Option.bind_some, if_neg (by decide)]
   show (((disk.Names d').bind _).bind _) = _
   obtain ⟨N, n1, n2, n3, n4⟩ := Names_eq d' (by omega)
   have hNl : N.length = (cnt r'.Files).length := by
    have hp : N.Perm ((cnt r'.Files).map (·.Name)) := (List.perm_ext_iff_of_nodup n2.nodup (cnt_nodup _)).2 fun x => by
     rw [n3, ← mm_iff, h'.m, List.mem_map]
     constructor
     ·intro hx
      obtain ⟨f, hf⟩ := Option.isSome_iff_exists.1 hx
      have := (mm_name hf).1
      exact ⟨f, cnt_mem_iff.2 (by rw [this]; exact hf), this⟩
     ·rintro ⟨f, hf, rfl⟩
      rw [cnt_mem_iff.1 hf]
      rfl
    rw [hp.length_eq, List.length_map]
   rw [n1, Option.bind_some]
   show (((mewsref16.Files r').bind _).bind _) = _
   rw [Files_eq (by omega), Option.bind_some, if_pos (by rw [hNl])]
   have hl2 : mewslaw16.DiskPlays.loop2 N (r', m, e) (d', m, e) ⟨0⟩ = some (.inl (d'.Files, d'.Faults, r'.Files, r'.Faults)) := by
    unfold mewslaw16.DiskPlays.loop2
    refine whileO_knownE ⟨0⟩ (fun i => (⟨(i : Int)⟩ : mewslaw16.DiskPlays.S2)) N.length (fun j hj => ?_) ?_
    ·unfold mewslaw16.DiskPlays.body2
     show (if (j : Int) < (N.length : Int) then _ else _) = _
     rw [if_pos (by omega)]
     show need (InB (j : Int) N.length) ((mewsref16.Find r' (ix N (j : Int))).bind _) = _
     have hsome : ∃ f, mm r'.Files N[j] = some f := Option.isSome_iff_exists.1 (by rw [← h'.m, mm_iff, ← n3]; exact List.getElem_mem hj)
     obtain ⟨f, hf⟩ := hsome
     rw [need_eq ⟨by omega, by omega⟩, RFind_eq (by omega), Option.bind_some, ix_get hj, lookR_mm, hf]
     show ((if (0 : Int) < (j : Int) then need (InB (IntKind.wrap .i64 ((j : Int) - 1)) N.length) (some (!strLt (ix N (IntKind.wrap .i64 ((j : Int) - 1))) N[j])) else some false).bind _) = _
     have : (if (0 : Int) < (j : Int) then need (InB (IntKind.wrap .i64 ((j : Int) - 1)) N.length) (some (!strLt (ix N (IntKind.wrap .i64 ((j : Int) - 1))) N[j])) else some false) = some false := by
      by_cases hj0 : 0 < j
      ·have ej : (j : Int) - 1 = ((j - 1 : Nat) : Int) := by omega
       rw [if_pos (by omega), i64w (by omega) (by omega), ej, need_eq ⟨by omega, by omega⟩, ix_get (by omega), n2.get (by omega) hj]
       rfl
      ·rw [if_neg (by omega)]
     rw [this, Option.bind_some, if_neg (by decide)]
     show some (Sum.inl (⟨IntKind.wrap .i64 ((j : Int) + 1)⟩ : mewslaw16.DiskPlays.S2)) = _
     rw [i64w (by omega) (by omega), show (j : Int) + 1 = ((j + 1 : Nat) : Int) by omega]
    ·unfold mewslaw16.DiskPlays.body2
     exact if_neg (by show ¬ (N.length : Int) < (N.length : Int); omega)
   rw [hl2]
   show some (Sum.inl (⟨IntKind.wrap .i64 ((i : Int) + 1), d'.Files, d'.Faults, r'.Files, r'.Faults⟩ : mewslaw16.DiskPlays.S0)) = _
   rw [i64w (by omega) (by omega), show (i : Int) + 1 = ((i + 1 : Nat) : Int) by omega]
  have hall : ∀ (k i : Nat) (d r : api.Disk), i + k = l.length → Rl d r → BD (5000 + i * 5001) d → BD (5000 + i * 5001) r → mewslaw16.DiskPlays.loop0 l ⟨(i : Int), d.Files, d.Faults, r.Files, r.Faults⟩ = some (.inl ()) := by
   intro k
   induction k with
   | zero =>
    intro i d r hi _ _ _
    unfold mewslaw16.DiskPlays.loop0
    refine whileO_end ?_
    unfold mewslaw16.DiskPlays.body0
    exact if_neg (by show ¬ (i : Int) < (l.length : Int); omega)
   | succ k ih =>
    intro i d r hi h hd hr
    obtain ⟨d', r', e, h', hd', hr'⟩ := hone i (by omega) d r h hd hr
    unfold mewslaw16.DiskPlays.loop0
    rw [whileO_stp e]
    exact ih (i + 1) d' r' (by omega) h' hd' hr'
  exact hall l.length 0 d d (by omega) ⟨fun _ => rfl, rfl⟩ (hbd.mono (by omega)) (hbd.mono (by omega))

end Go.Pu

namespace Go.Pu.Pure
open Go.Lift Go.Pu
theorem DiskPlays {a0 : api.Disk} {a1 : List mewslaw16.Op} (h0 : api.Disk.wf a0) (h1 : a1.length * 48 ≤ 140737488351232 ∧ ∀ y0, y0 ∈ a1 → mewslaw16.Op.wf y0) : mewslaw16.DiskPlays a0 a1 = some true :=
 DiskPlays_pure a0 a1 (by have := h0.1.1; omega) (by omega)
end Go.Pu.Pure
