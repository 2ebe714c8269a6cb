import Derived.Test.YtlidepjlhmaldaaDPPuDisk7
set_option maxHeartbeats 0
set_option maxRecDepth 100000
namespace Go.Pu
open Go.Lift

/-- What a name has. -/
def mm (l : List api.File) (k : List UInt8) : Option api.File := (look l k).map sfF
/-- Two disks are alike. -/
structure Rl (d r : api.Disk) : Prop where
 m : ∀ k, mm d.Files k = mm r.Files k
 t : d.Faults = r.Faults
/-- The sizes of a disk. -/
structure BD (n : Nat) (d : api.Disk) : Prop where
 f : d.Files.length ≤ n
 t : d.Faults.length ≤ n
 b : ∀ x, x ∈ d.Files → x.Data.length ≤ n
theorem BD.mono {a b : Nat} {d : api.Disk} (h : BD a d) (hab : a ≤ b) : BD b d := ⟨Nat.le_trans h.f hab, Nat.le_trans h.t hab, fun x hx => Nat.le_trans (h.b x hx) hab⟩
theorem BD.sz {a : Nat} {d : api.Disk} (h : BD a d) (hab : a ≤ 800000) : DSz d := ⟨by have := h.f; omega, by have := h.t; omega, fun x hx => by have := h.b x hx; omega⟩

theorem mm_iff {l : List api.File} {k : List UInt8} : (mm l k).isSome = (look l k).isSome := by unfold mm; cases look l k <;> rfl
theorem mm_set (f : api.File) (l : List api.File) (k : List UInt8) : mm (setF f (cnt l)) k = if k = f.Name then some (sfF f) else mm l k := by
 unfold mm
 rw [look_setF]
 split
 ·rfl
 ·rw [look_cnt]
  cases look l k with
  | none => rfl
  | some x => show some (sfF (sfF x)) = some (sfF x); rw [sfF_sfF]

theorem lookR_mm (l : List api.File) (k : List UInt8) : lookR l k = match mm l k with | some x => (x, true) | none => (⟨[], [], 0⟩, false) := by
 unfold lookR mm
 cases look l k <;> rfl
theorem mm_name {l : List api.File} {k : List UInt8} {x : api.File} (h : mm l k = some x) : x.Name = k ∧ sfF x = x ∧ ∃ y, y ∈ l ∧ x = sfF y := by
 unfold mm at h
 cases e : look l k with
 | none => rw [e] at h; cases h
 | some y =>
  rw [e] at h
  obtain rfl : sfF y = x := Option.some.inj h
  exact ⟨(look_some e).2, sfF_sfF y, y, (look_some e).1, rfl⟩

/-- What is written behind. -/
def addF (s : List UInt8) (y : api.File) : api.File := { Name := y.Name, Data := y.Data ++ s, Synced := y.Synced }
theorem sfF_wrF (s : List UInt8) (x : api.File) : sfF (wrF s x) = addF s (sfF x) := by
 unfold sfF wrF addF
 have : clampN (clampN x.Synced x.Data.length : Int) (x.Data ++ s).length = clampN x.Synced x.Data.length := by
  rw [List.length_append]; unfold clampN; omega
 rw [this]
theorem sfF_addF (s : List UInt8) (x : api.File) : sfF (addF s (sfF x)) = addF s (sfF x) := by
 rw [← sfF_wrF, sfF_sfF]

def wrM (o : Option api.File) (name s : List UInt8) : api.File := match o with | some y => addF s y | none => { Name := name, Data := s, Synced := 0 }

theorem mm_put (l : List api.File) (name s k : List UInt8) : mm (putF l name s) k = if k = name then some (wrM (mm l name) name s) else mm l k := by
 unfold mm
 rw [look_putF]
 split
 ·cases look l name with
  | none =>
   show some (sfF ({ Name := name, Data := s, Synced := 0 } : api.File)) = some ({ Name := name, Data := s, Synced := 0 } : api.File)
   unfold sfF clampN
   simp
  | some x => show some (sfF (wrF s x)) = some (addF s (sfF x)); rw [sfF_wrF]
 ·rfl

theorem modF_mem {g : api.File → api.File} {name : List UInt8} {x : api.File} : ∀ {l : List api.File}, x ∈ modF g name l → x ∈ l ∨ ∃ y, y ∈ l ∧ x = g y
 | [], h => by cases h
 | y :: l, h => by
  unfold modF at h
  split at h
  ·rcases List.mem_cons.1 h with h | h
   ·exact .inr ⟨y, List.mem_cons_self .., h⟩
   ·exact .inl (List.mem_cons_of_mem _ h)
  ·rcases List.mem_cons.1 h with h | h
   ·exact .inl (h ▸ List.mem_cons_self ..)
   ·rcases modF_mem h with h | ⟨z, hz, e⟩
    ·exact .inl (List.mem_cons_of_mem _ h)
    ·exact .inr ⟨z, List.mem_cons_of_mem _ hz, e⟩

theorem wrS_len (o : Option api.Fault) (s : List UInt8) : (wrS o s).length ≤ s.length := wrS_le o s

/-! ### Write -/
theorem Write_step {n : Nat} {d r : api.Disk} (h : Rl d r) (hd : BD n d) (hr : BD n r) (name s : List UInt8) (hn : n + s.length + 1 ≤ 800000) :
  ∃ d' r' m e, disk.Write d name s = some (d', m, e) ∧ mewsref16.Write r name s = some (r', m, e) ∧ Rl d' r' ∧ BD (n + s.length + 1) d' ∧ BD (n + s.length + 1) r' := by
 have hsz := hd.sz (by omega)
 refine ⟨_, { Files := setF { Name := name, Data := (lookR r.Files name).1.Data ++ wrS (takeF name 1 r.Faults).1 s, Synced := (lookR r.Files name).1.Synced } (cnt r.Files), Faults := (takeF name 1 r.Faults).2 }, _, _, Write_eq hsz name s (by omega), ?_, ⟨fun k => ?_, ?_⟩, ?_, ?_⟩
 ·have hrf := hr.f
  have hrt := hr.t
  have hR : ((lookR r.Files name).1.Data).length ≤ n := by
   rw [lookR_mm]
   cases e : mm r.Files name with
   | none => exact Nat.zero_le _
   | some x =>
    obtain ⟨_, _, y, hy, rfl⟩ := mm_name e
    exact hr.b y hy
  unfold mewsref16.Write
  rw [Meets_eq (by omega), Option.bind_some, h.t]
  generalize takeF name 1 r.Faults = q
  obtain ⟨o, fl⟩ := q
  have hsl := wrS_le o s
  have hmid : (if o.isSome = true then (mewsref16.between (o.getD ⟨[], 0, 0⟩).Short (s.length : Int)).bind fun r31 => need (InR 0 r31 s.length) (some (sub s 0 r31, (15 : Int))) else some (s, (0 : Int))) = some (wrS o s, wrE o) := by
   cases o with
   | none => rfl
   | some f =>
    have hc := clampN_le f.Short s.length
    rw [if_pos (show (some f).isSome = true from rfl)]
    show ((mewsref16.between f.Short (s.length : Int)).bind _) = _
    rw [between_eq, Option.bind_some, need_eq ⟨by omega, by omega, by omega⟩, sub0]
    rfl
  show ((if o.isSome = true then (mewsref16.between (o.getD ⟨[], 0, 0⟩).Short (s.length : Int)).bind fun r31 => need (InR 0 r31 s.length) (some (sub s 0 r31, (15 : Int))) else some (s, (0 : Int))).bind _) = _
  rw [hmid, Option.bind_some, RFind_eq (by show r.Files.length < 1000000000; omega), Option.bind_some]
  show (need ((lookR r.Files name).1.Data.length + (wrS o s).length ≤ 9223372036854775807) ((mewsref16.with_ { r with Faults := fl } ({ Name := name, Data := (lookR r.Files name).1.Data ++ wrS o s, Synced := (lookR r.Files name).1.Synced } : api.File)).bind _)) = _
  rw [need_eq (by omega), with_eq (by show r.Files.length < 1000000; omega), Option.bind_some]
 ·show mm (putF d.Files name (wrS (takeF name 1 d.Faults).1 s)) k = mm (setF _ (cnt r.Files)) k
  rw [mm_put, mm_set, h.m, h.m, h.t]
  show _ = if k = name then _ else _
  generalize wrS (takeF name 1 r.Faults).1 s = sw
  split
  ·rw [lookR_mm]
   cases e : mm r.Files name with
   | none =>
    show some ({ Name := name, Data := _, Synced := 0 } : api.File) = some (sfF ({ Name := name, Data := [] ++ _, Synced := 0 } : api.File))
    unfold sfF clampN
    simp
   | some x =>
    obtain ⟨hx1, hx2, y, hy, rfl⟩ := mm_name e
    have hsa := sfF_addF sw y
    unfold addF at hsa
    show some (addF _ (sfF y)) = some (sfF { Name := name, Data := (sfF y).Data ++ sw, Synced := (sfF y).Synced })
    rw [← hx1, hsa]
    rfl
  ·rfl
 ·show (takeF name 1 d.Faults).2 = _
  rw [h.t]
 ·have := takeF_len name 1 d.Faults
  have hsl := wrS_le (takeF name 1 d.Faults).1 s
  have := hd.f
  have := hd.t
  refine ⟨?_, by show (takeF name 1 d.Faults).2.length ≤ _; omega, fun x hx => ?_⟩
  ·show (putF d.Files name _).length ≤ _
   unfold putF
   split
   ·rw [modF_len]; omega
   ·rw [List.length_append, List.length_singleton]; omega
  ·have hx : x ∈ putF d.Files name (wrS (takeF name 1 d.Faults).1 s) := hx
   unfold putF at hx
   split at hx
   ·rcases modF_mem hx with hx | ⟨y, hy, rfl⟩
    ·have := hd.b x hx; omega
    ·have := hd.b y hy
     show (y.Data ++ _).length ≤ _
     rw [List.length_append]; omega
   ·rcases List.mem_append.1 hx with hx | hx
    ·have := hd.b x hx; omega
    ·obtain rfl := List.mem_singleton.1 hx
     show (wrS _ s).length ≤ _
     omega
 ·have := takeF_len name 1 r.Faults
  have hsl := wrS_le (takeF name 1 r.Faults).1 s
  have := hr.f
  have := hr.t
  have hcl := cnt_len r.Files
  refine ⟨?_, by show (takeF name 1 r.Faults).2.length ≤ _; omega, fun x hx => ?_⟩
  ·have := setF_len ({ Name := name, Data := (lookR r.Files name).1.Data ++ wrS (takeF name 1 r.Faults).1 s, Synced := (lookR r.Files name).1.Synced }) (cnt r.Files)
   show (setF _ _).length ≤ _
   omega
  ·rcases setF_mem hx with rfl | hx
   ·show ((lookR r.Files name).1.Data ++ _).length ≤ _
    rw [List.length_append]
    have hR : ((lookR r.Files name).1.Data).length ≤ n := by
     rw [lookR_mm]
     cases e : mm r.Files name with
     | none => exact Nat.zero_le _
     | some x =>
      obtain ⟨_, _, y, hy, rfl⟩ := mm_name e
      exact hr.b y hy
    omega
   ·obtain ⟨y, hy, rfl⟩ := cnt_mem hx
    have := hr.b y hy
    show y.Data.length ≤ _
    omega

/-! ### Sync -/
theorem sfF_syF (x : api.File) : sfF (syF x) = syF (sfF x) := by
 unfold sfF syF
 have : clampN (x.Data.length : Int) x.Data.length = x.Data.length := by unfold clampN; omega
 show ({ Name := x.Name, Data := x.Data, Synced := (clampN (x.Data.length : Int) x.Data.length : Int) } : api.File) = _
 rw [this]

theorem mm_mod {g : api.File → api.File} (hg : ∀ x, (g x).Name = x.Name) (hs : ∀ x, sfF (g x) = g (sfF x)) (name : List UInt8) (l : List api.File) (k : List UInt8) : mm (modF g name l) k = if k = name then (mm l name).map g else mm l k := by
 unfold mm
 rw [look_modF g hg]
 split
 ·cases look l name with
  | none => rfl
  | some x => show some (sfF (g x)) = some (g (sfF x)); rw [hs]
 ·rfl

theorem BD.take {n : Nat} {d : api.Disk} (h : BD n d) (name : List UInt8) (kind : Int) : BD n { d with Faults := (takeF name kind d.Faults).2 } :=
 ⟨h.f, Nat.le_trans (takeF_len name kind d.Faults) h.t, h.b⟩

theorem BD.set {n : Nat} {r : api.Disk} (h : BD n r) {f : api.File} (hf : f.Data.length ≤ n) (fl : List api.Fault) (ht : fl.length ≤ n) : BD (n + 1) { Files := setF f (cnt r.Files), Faults := fl } := by
 have := setF_len f (cnt r.Files)
 have hcl := cnt_len r.Files
 have := h.f
 refine ⟨by show (setF _ _).length ≤ _; omega, by show fl.length ≤ _; omega, fun x hx => ?_⟩
 rcases setF_mem hx with rfl | hx
 ·omega
 ·obtain ⟨y, hy, rfl⟩ := cnt_mem hx
  have := h.b y hy
  show y.Data.length ≤ _
  omega

theorem BD.mod {n : Nat} {d : api.Disk} (h : BD n d) {g : api.File → api.File} (hg : ∀ x, (g x).Data.length ≤ x.Data.length) (name : List UInt8) (fl : List api.Fault) (ht : fl.length ≤ n) : BD (n + 1) { Files := modF g name d.Files, Faults := fl } := by
 have := h.f
 refine ⟨by show (modF _ _ _).length ≤ _; rw [modF_len]; omega, by show fl.length ≤ _; omega, fun x hx => ?_⟩
 rcases modF_mem hx with hx | ⟨y, hy, rfl⟩
 ·have := h.b x hx; omega
 ·have := h.b y hy
  have := hg y
  omega

theorem Sync_step {n : Nat} {d r : api.Disk} (h : Rl d r) (hd : BD n d) (hr : BD n r) (name : List UInt8) (hn : n + 1 ≤ 800000) :
  ∃ d' r' e, disk.Sync d name = some (d', e) ∧ mewsref16.Sync r name = some (r', e) ∧ Rl d' r' ∧ BD (n + 1) d' ∧ BD (n + 1) r' := by
 have hsz := hd.sz (by omega)
 have hrf := hr.f
 have hrt := hr.t
 rw [Sync_eq hsz]
 unfold mewsref16.Sync
 rw [RFind_eq (by omega), Option.bind_some, lookR_mm, ← mm_iff, h.m, Meets_eq (by omega)]
 cases e : mm r.Files name with
 | none => exact ⟨d, r, 8, rfl, rfl, h, hd.mono (by omega), hr.mono (by omega)⟩
 | some x =>
  obtain ⟨hx1, hx2, y, hy, rfl⟩ := mm_name e
  show ∃ d' r' e, (some (if (takeF name 2 d.Faults).1.isSome = true then _ else _) : Option (api.Disk × Int)) = some (d', e) ∧ (if (takeF name 2 r.Faults).1.isSome = true then some (_, (15 : Int)) else ((mewsref16.with_ { r with Faults := (takeF name 2 r.Faults).2 } (syF (sfF y))).bind fun r19 => some (r19, (0 : Int)))) = some (r', e) ∧ _
  rw [with_eq (by show r.Files.length < 1000000; omega), Option.bind_some, h.t]
  by_cases hi : (takeF name 2 r.Faults).1.isSome = true
  ·rw [if_pos hi, if_pos hi]
   refine ⟨_, _, _, rfl, rfl, ⟨h.m, rfl⟩, ?_, (hr.take name 2).mono (by omega)⟩
   have := hd.take name 2
   rw [h.t] at this
   exact this.mono (by omega)
  ·rw [if_neg hi, if_neg hi]
   have hfl := takeF_len name 2 r.Faults
   refine ⟨_, _, _, rfl, rfl, ⟨fun k => ?_, rfl⟩, hd.mod (g := syF) (fun x => Nat.le_refl _) name _ (by omega), hr.set (f := syF (sfF y)) (hr.b y hy) _ (by show (takeF name 2 r.Faults).2.length ≤ n; omega)⟩
   show mm (modF syF name d.Files) k = mm (setF (syF (sfF y)) (cnt r.Files)) k
   rw [mm_mod (g := syF) (fun _ => rfl) sfF_syF, mm_set, h.m, h.m, e, ← sfF_syF, sfF_sfF]
   show _ = if k = y.Name then _ else _
   rw [show y.Name = name from hx1]
   split
   ·show some (syF (sfF y)) = _
    rw [← sfF_syF]
   ·rfl

/-! ### Cut -/
theorem sfF_cuF (n : Int) (x : api.File) : sfF (cuF n x) = cuF n (sfF x) ∧ cuF n (sfF x) = cuF n x := by
 have e1 : (x.Data.take (clampN n x.Data.length)).length = clampN n x.Data.length := by
  have := clampN_le n x.Data.length
  rw [List.length_take]; omega
 have e2 : clampN (clampN x.Synced x.Data.length : Int) (clampN n x.Data.length) = clampN x.Synced (clampN n x.Data.length) := by unfold clampN; omega
 have e : cuF n (sfF x) = cuF n x := by
  show ({ Name := x.Name, Data := x.Data.take (clampN n x.Data.length), Synced := (clampN (clampN x.Synced x.Data.length : Int) (clampN n x.Data.length) : Int) } : api.File) = _
  rw [e2]
  rfl
 refine ⟨?_, e⟩
 rw [e]
 show ({ Name := x.Name, Data := x.Data.take (clampN n x.Data.length), Synced := (clampN (clampN x.Synced (clampN n x.Data.length) : Int) (x.Data.take (clampN n x.Data.length)).length : Int) } : api.File) = _
 rw [e1, clampN_self]
 rfl

theorem Cut_step {n : Nat} {d r : api.Disk} (h : Rl d r) (hd : BD n d) (hr : BD n r) (name : List UInt8) (m : Int) (hn : n + 1 ≤ 800000) :
  ∃ d' r' e, disk.Cut d name m = some (d', e) ∧ mewsref16.Cut r name m = some (r', e) ∧ Rl d' r' ∧ BD (n + 1) d' ∧ BD (n + 1) r' := by
 have hsz := hd.sz (by omega)
 have hrf := hr.f
 have hrt := hr.t
 have hdt := hd.t
 rw [Cut_eq hsz]
 unfold mewsref16.Cut
 rw [RFind_eq (by omega), Option.bind_some, lookR_mm, ← mm_iff, h.m]
 cases e : mm r.Files name with
 | none => exact ⟨d, r, 8, rfl, rfl, h, hd.mono (by omega), hr.mono (by omega)⟩
 | some x =>
  obtain ⟨hx1, hx2, y, hy, rfl⟩ := mm_name e
  have hc := clampN_le m y.Data.length
  have e1 : (y.Data.take (clampN m y.Data.length)).length = clampN m y.Data.length := by rw [List.length_take]; omega
  refine ⟨_, { r with Files := setF (cuF m (sfF y)) (cnt r.Files) }, 0, rfl, ?_, ⟨fun k => ?_, h.t⟩, hd.mod (g := cuF m) (fun x => ?_) name _ hdt, hr.set ?_ _ hrt⟩
  ·show ((mewsref16.between m (y.Data.length : Int)).bind _) = _
   rw [between_eq, Option.bind_some]
   show need (InR 0 (clampN m y.Data.length : Int) y.Data.length) ((mewsref16.between (sfF y).Synced ((sub y.Data 0 (clampN m y.Data.length : Int)).length : Int)).bind _) = _
   rw [need_eq ⟨by omega, by omega, by omega⟩, sub0, e1, between_eq, Option.bind_some]
   show ((mewsref16.with_ r ({ Name := y.Name, Data := y.Data.take (clampN m y.Data.length), Synced := (clampN (sfF y).Synced (clampN m y.Data.length) : Int) } : api.File)).bind _) = _
   rw [with_eq (by omega)]
   rfl
  ·show mm (modF (cuF m) name d.Files) k = mm (setF (cuF m (sfF y)) (cnt r.Files)) k
   rw [mm_mod (g := cuF m) (fun _ => rfl) (fun x => (sfF_cuF m x).1), mm_set, h.m, h.m, e, (sfF_cuF m (sfF y)).1, sfF_sfF]
   show _ = if k = y.Name then _ else _
   rw [show y.Name = name from hx1]
   rfl
  ·show (x.Data.take _).length ≤ _
   rw [List.length_take]; omega
  ·have := hr.b y hy
   show (y.Data.take _).length ≤ _
   rw [List.length_take]; omega

/-! ### Remove -/
theorem look_not (l : List api.File) (name k : List UInt8) : look (l.filter (notN name)) k = if k = name then none else look l k := by
 split
 ·rename_i hk
  refine look_none fun x hx e => ?_
  have := (List.mem_filter.1 hx).2
  unfold notN at this
  rw [isN_iff.2 (e.trans hk)] at this
  cases this
 ·rename_i hk
  refine look_filter l fun f hf => ?_
  unfold notN
  rw [isN_not.2 (fun e => hk (hf.symm.trans e))]
  rfl

theorem RRemove_eq {d : api.Disk} (hd : d.Files.length < 1000000) (name : List UInt8) : mewsref16.Remove d name = some { d with Files := (cnt d.Files).filter (notN name) } := by
 have hcl := cnt_len d.Files
 unfold mewsref16.Remove
 rw [Files_eq hd, Option.bind_some]
 generalize cnt d.Files = l at hcl
 have hloop : mewsref16.Remove.loop0 l name ⟨0, []⟩ = some (l.filter (notN name)) := by
  unfold mewsref16.Remove.loop0
  refine whileO_knownE ⟨0, []⟩ (fun i => (⟨(i : Int), (l.take i).filter (notN name)⟩ : mewsref16.Remove.S0)) l.length (fun i hi => ?_) ?_
  ·unfold mewsref16.Remove.body0
   have hfl := List.length_filter_le (notN name) (l.take i)
   rw [List.length_take] at hfl
   have hin : InB (i : Int) l.length := ⟨by omega, by omega⟩
   show (if (i : Int) < (l.length : Int) then _ else _) = _
   rw [if_pos (by omega)]
   show ((need (InB (i : Int) l.length) (if (ix l (i : Int)).Name = name then some ((l.take i).filter (notN name)) else need (InB (i : Int) l.length) (need ((((l.take i).filter (notN name)).length + 1) * 40 ≤ 140737488355328) (some ((l.take i).filter (notN name) ++ [ix l (i : Int)]))))).bind _) = _
   rw [need_eq hin, need_eq hin, need_eq (by omega)]
   have e : (if (ix l (i : Int)).Name = name then some ((l.take i).filter (notN name)) else some ((l.take i).filter (notN name) ++ [ix l (i : Int)])) = some ((l.take (i + 1)).filter (notN name)) := by
    rw [List.take_add_one, List.getElem?_eq_getElem hi, List.filter_append, ← ix_get hi]
    by_cases hx : (ix l (i : Int)).Name = name
    ·rw [if_pos hx]; simp [notN, isN, hx]
    ·rw [if_neg hx]; simp [notN, isN, hx]
   rw [e, Option.bind_some]
   show some (Sum.inl (⟨IntKind.wrap .i64 ((i : Int) + 1), _⟩ : mewsref16.Remove.S0)) = _
   rw [i64w (by omega) (by omega), show (i : Int) + 1 = ((i + 1 : Nat) : Int) by omega]
  ·unfold mewsref16.Remove.body0
   show (if (l.length : Int) < (l.length : Int) then _ else _) = _
   rw [if_neg (by omega), List.take_length]
 rw [hloop]
 rfl

theorem mm_not (l : List api.File) (name k : List UInt8) : mm (l.filter (notN name)) k = if k = name then none else mm l k := by
 unfold mm
 rw [look_not]
 split <;> rfl
theorem mm_notc (l : List api.File) (name k : List UInt8) : mm ((cnt l).filter (notN name)) k = if k = name then none else mm l k := by
 rw [mm_not]
 split
 ·rfl
 ·unfold mm
  rw [look_cnt]
  cases look l k with
  | none => rfl
  | some x => show some (sfF (sfF x)) = some (sfF x); rw [sfF_sfF]

theorem BD.sub {n : Nat} {d : api.Disk} (h : BD n d) {l : List api.File} (hl : l.length ≤ d.Files.length) (hm : ∀ x, x ∈ l → ∃ y, y ∈ d.Files ∧ x.Data.length ≤ y.Data.length) (fl : List api.Fault) (ht : fl.length ≤ n) : BD (n + 1) { Files := l, Faults := fl } := by
 have := h.f
 refine ⟨by show l.length ≤ _; omega, by show fl.length ≤ _; omega, fun x hx => ?_⟩
 obtain ⟨y, hy, e⟩ := hm x hx
 have := h.b y hy
 omega

theorem Remove_step {n : Nat} {d r : api.Disk} (h : Rl d r) (hd : BD n d) (hr : BD n r) (name : List UInt8) (hn : n + 1 ≤ 800000) :
  ∃ d' r', disk.Remove d name = some d' ∧ mewsref16.Remove r name = some r' ∧ Rl d' r' ∧ BD (n + 1) d' ∧ BD (n + 1) r' := by
 have hsz := hd.sz (by omega)
 have hrf := hr.f
 refine ⟨_, _, Remove_eq hsz name, RRemove_eq (by omega) name, ⟨fun k => ?_, h.t⟩, hd.sub (List.length_filter_le _ _) (fun x hx => ⟨x, (List.mem_filter.1 hx).1, Nat.le_refl _⟩) _ hd.t, hr.sub (Nat.le_trans (List.length_filter_le _ _) (cnt_len _)) (fun x hx => ?_) _ hr.t⟩
 ·show mm (d.Files.filter (notN name)) k = mm ((cnt r.Files).filter (notN name)) k
  rw [mm_not, mm_notc, h.m]
 ·obtain ⟨y, hy, rfl⟩ := cnt_mem (List.mem_filter.1 hx).1
  exact ⟨y, hy, Nat.le_refl _⟩

end Go.Pu
