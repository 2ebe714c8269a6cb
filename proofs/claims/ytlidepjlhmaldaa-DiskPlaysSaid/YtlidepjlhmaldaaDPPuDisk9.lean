import Derived.Test.YtlidepjlhmaldaaDPPuDisk8
set_option maxHeartbeats 0
set_option maxRecDepth 100000
namespace Go.Pu
open Go.Lift

/-! ### Rename -/
theorem look_renF_all (frm to k : List UInt8) {l : List api.File} (h : (look l frm).isSome = true) : look (renF frm to l) k = if k = to then (look l frm).map (fun x => { x with Name := to }) else if k = frm then none else look l k := by
 by_cases h1 : k = to
 ·subst h1
  rw [if_pos rfl]
  rcases fx_cases l frm with ⟨_, h2⟩ | ⟨a, x, b, e, h2, h3, h4⟩
  ·rw [look_none h2] at h; cases h
  ·rw [e, renF_mid h3 h4, look_mid h3 h4]
   exact look_mid (x := { x with Name := k }) rfl fun y hy e => by
    have := (List.mem_filter.1 hy).2
    unfold renQ at this
    rw [isN_iff.2 e] at this
    cases this
 ·rw [if_neg h1]
  by_cases h2 : k = frm
  ·subst h2
   rw [if_pos rfl]
   rcases fx_cases l k with ⟨_, h2⟩ | ⟨a, x, b, e, h2, h3, h4⟩
   ·rw [look_none h2] at h; cases h
   ·rw [e, renF_mid h3 h4]
    have hq : ∀ y : api.File, renQ k to y = true → y.Name ≠ k := fun y hy e => by
     unfold renQ at hy
     rw [isN_iff.2 e, Bool.not_true, Bool.and_false] at hy
     cases hy
    refine look_none fun y hy => ?_
    rcases List.mem_append.1 hy with hy | hy
    ·exact hq y (List.mem_filter.1 hy).2
    ·rcases List.mem_cons.1 hy with rfl | hy
     ·exact fun e => h1 e.symm
     ·exact hq y (List.mem_filter.1 hy).2
  ·rw [if_neg h2, look_renF h2 h1]

theorem renF_mem (frm to : List UInt8) : ∀ {l : List api.File} {x : api.File}, x ∈ renF frm to l → ∃ y, y ∈ l ∧ x.Data.length ≤ y.Data.length
 | [], x, h => by cases h
 | z :: l, x, h => by
  unfold renF at h
  split at h
  ·rcases List.mem_cons.1 h with rfl | h
   ·exact ⟨z, List.mem_cons_self .., Nat.le_refl _⟩
   ·exact ⟨x, List.mem_cons_of_mem _ (List.mem_filter.1 h).1, Nat.le_refl _⟩
  ·split at h
   ·obtain ⟨y, hy, e⟩ := renF_mem frm to h
    exact ⟨y, List.mem_cons_of_mem _ hy, e⟩
   ·rcases List.mem_cons.1 h with rfl | h
    ·exact ⟨x, List.mem_cons_self .., Nat.le_refl _⟩
    ·obtain ⟨y, hy, e⟩ := renF_mem frm to h
     exact ⟨y, List.mem_cons_of_mem _ hy, e⟩

/-- The document's renaming. -/
def rnF (frm to : List UInt8) (x y : api.File) : api.File := if y.Name = frm then { x with Name := to } else y

theorem look_rnF (frm to k : List UInt8) (x : api.File) : ∀ (l : List api.File), (frm ≠ to → look l to = none) → look (l.map (rnF frm to x)) k = if k = to then (if (look l frm).isSome then some { x with Name := to } else none) else if k = frm then none else look l k
 | [], _ => by unfold look; simp
 | y :: l, h => by
  have hc : ∀ (a : api.File) (t : List api.File) (n : List UInt8), look (a :: t) n = if a.Name = n then some a else look t n := fun a t n => by
   unfold look
   rw [List.find?_cons]
   by_cases e : a.Name = n
   ·rw [isN_iff.2 e, if_pos e]
   ·rw [isN_not.2 e, if_neg e]
  have ih := look_rnF frm to k x l fun hne => by
   have := h hne
   rw [hc] at this
   by_cases e : y.Name = to
   ·rw [if_pos e] at this; cases this
   ·rwa [if_neg e] at this
  rw [List.map_cons, hc, hc, hc, ih]
  unfold rnF
  by_cases hy : y.Name = frm
  ·rw [if_pos hy, if_pos hy]
   by_cases hk : k = to
   ·rw [if_pos hk.symm, if_pos hk]; rfl
   ·rw [if_neg hk, if_neg (fun e => hk e.symm), if_neg hk]
    by_cases hk2 : k = frm
    ·rw [if_pos hk2, if_pos hk2]
    ·rw [if_neg hk2, if_neg hk2, if_neg (fun e => hk2 (e.symm.trans hy))]
  ·rw [if_neg hy, if_neg hy]
   have hyt : y.Name ≠ to := fun e => by
    by_cases hne : frm = to
    ·exact hy (e.trans hne.symm)
    ·have := h hne
     rw [hc, if_pos e] at this
     cases this
   by_cases hk : k = to
   ·rw [if_pos hk, if_neg (fun e => hyt (e.trans hk)), if_pos hk]
   ·rw [if_neg hk, if_neg hk]
    by_cases hk2 : k = frm
    ·rw [if_pos hk2, if_pos hk2, if_neg (fun e => hy (e.trans hk2))]
    ·rw [if_neg hk2, if_neg hk2]

theorem mm_cnt (l : List api.File) (k : List UInt8) : mm (cnt l) k = mm l k := by
 unfold mm
 rw [look_cnt]
 cases look l k with
 | none => rfl
 | some x => show some (sfF (sfF x)) = some (sfF x); rw [sfF_sfF]
theorem look_cnt_mm (l : List api.File) (k : List UInt8) : look (cnt l) k = mm l k := look_cnt l k

theorem Rename_step {n : Nat} {d r : api.Disk} (h : Rl d r) (hd : BD n d) (hr : BD n r) (frm to : List UInt8) (hn : n + 1 ≤ 800000) :
  ∃ d' r' e, disk.Rename d frm to = some (d', e) ∧ mewsref16.Rename r frm to = some (r', e) ∧ Rl d' r' ∧ BD (n + 1) d' ∧ BD (n + 1) r' := by
 have hsz := hd.sz (by omega)
 have hrf := hr.f
 have hrt := hr.t
 rw [Rename_eq hsz]
 unfold mewsref16.Rename
 rw [RFind_eq (by omega), Option.bind_some, lookR_mm, ← mm_iff, h.m, Meets_eq (by omega)]
 cases e : mm r.Files frm with
 | none => exact ⟨d, r, 8, rfl, rfl, h, hd.mono (by omega), hr.mono (by omega)⟩
 | some x =>
  obtain ⟨hx1, hx2, y, hy, rfl⟩ := mm_name e
  obtain ⟨fl, hfl⟩ : ∃ fl, fl = (takeF frm 3 r.Faults).2 := ⟨_, rfl⟩
  have hfll : fl.length ≤ n := by rw [hfl]; exact Nat.le_trans (takeF_len _ _ _) hrt
  -- what is left once the name is free
  obtain ⟨l1, hl1⟩ : ∃ l1 : List api.File, l1 = if frm = to then r.Files else (cnt r.Files).filter (notN to) := ⟨_, rfl⟩
  have hl1len : l1.length ≤ r.Files.length := by
   rw [hl1]
   split
   ·exact Nat.le_refl _
   ·exact Nat.le_trans (List.length_filter_le _ _) (cnt_len _)
  have hl1mem : ∀ z, z ∈ l1 → ∃ y, y ∈ r.Files ∧ z.Data.length ≤ y.Data.length := fun z hz => by
   rw [hl1] at hz
   split at hz
   ·exact ⟨z, hz, Nat.le_refl _⟩
   ·obtain ⟨w, hw, rfl⟩ := cnt_mem (List.mem_filter.1 hz).1
    exact ⟨w, hw, Nat.le_refl _⟩
  have hmm1 : ∀ k, mm l1 k = if frm = to then mm r.Files k else if k = to then none else mm r.Files k := fun k => by
   rw [hl1]
   split
   ·rfl
   ·exact mm_notc r.Files to k
  have hmid : ((if frm = to then some (r.Files, fl) else (mewsref16.Remove { r with Faults := fl } to).bind fun r171 => some (r171.Files, r171.Faults)) : Option (List api.File × List api.Fault)) = some (l1, fl) := by
   rw [RRemove_eq (by show r.Files.length < 1000000; omega), Option.bind_some, hl1]
   split <;> rfl
  have hloop : mewsref16.Rename.loop0 (cnt l1) frm (sfF y, true) to ⟨0, (sfF y).Name, []⟩ = some ((cnt l1).map (rnF frm to (sfF y))) := by
   have hcl := cnt_len l1
   generalize cnt l1 = l at hcl
   unfold mewsref16.Rename.loop0
   have hst : ∀ i, i ≤ l.length → ∀ c, ∃ c', mewsref16.Rename.body0 l frm (sfF y, true) to ⟨(i : Int), c, (l.take i).map (rnF frm to (sfF y))⟩ = if i < l.length then some (.inl ⟨((i + 1 : Nat) : Int), c', (l.take (i + 1)).map (rnF frm to (sfF y))⟩) else some (.inr ((l.take i).map (rnF frm to (sfF y)))) := by
    intro i hi c
    unfold mewsref16.Rename.body0
    by_cases hlt : i < l.length
    ·have hin : InB (i : Int) l.length := ⟨by omega, by omega⟩
     have hw : IntKind.wrap .i64 ((i : Int) + 1) = ((i + 1 : Nat) : Int) := by rw [i64w (by omega) (by omega)]; omega
     rw [if_pos (show (i : Int) < (l.length : Int) by omega)]
     have et : (l.take (i + 1)).map (rnF frm to (sfF y)) = (l.take i).map (rnF frm to (sfF y)) ++ [rnF frm to (sfF y) (ix l (i : Int))] := by
      rw [List.take_add_one, List.getElem?_eq_getElem hlt, List.map_append, ix_get hlt]; rfl
     refine ⟨if (ix l (i : Int)).Name = frm then to else c, ?_⟩
     show ((need (InB (i : Int) l.length) (if (ix l (i : Int)).Name = frm then need ((((l.take i).map (rnF frm to (sfF y))).length + 1) * 40 ≤ 140737488355328) (some (to, (l.take i).map (rnF frm to (sfF y)) ++ [({ (sfF y) with Name := to } : api.File)])) else need (InB (i : Int) l.length) (need ((((l.take i).map (rnF frm to (sfF y))).length + 1) * 40 ≤ 140737488355328) (some (c, (l.take i).map (rnF frm to (sfF y)) ++ [ix l (i : Int)]))))).bind _) = _
     rw [need_eq hin, need_eq hin, need_eq (by rw [List.length_map, List.length_take]; omega), need_eq (by rw [List.length_map, List.length_take]; omega), if_pos hlt, et]
     unfold rnF
     by_cases hx : (ix l (i : Int)).Name = frm
     ·rw [if_pos hx, if_pos hx, if_pos hx, Option.bind_some]
      show some (Sum.inl (⟨IntKind.wrap .i64 ((i : Int) + 1), _, _⟩ : mewsref16.Rename.S0)) = _
      rw [hw]
     ·rw [if_neg hx, if_neg hx, if_neg hx, Option.bind_some]
      show some (Sum.inl (⟨IntKind.wrap .i64 ((i : Int) + 1), _, _⟩ : mewsref16.Rename.S0)) = _
      rw [hw]
    ·refine ⟨c, ?_⟩
     rw [if_neg (show ¬ (i : Int) < (l.length : Int) by omega), if_neg hlt]
   have hall : ∀ (m i : Nat) (c : List UInt8), i + m = l.length → whileO (mewsref16.Rename.body0 l frm (sfF y, true) to) ⟨(i : Int), c, (l.take i).map (rnF frm to (sfF y))⟩ = some (l.map (rnF frm to (sfF y))) := by
    intro m
    induction m with
    | zero =>
     intro i c hi
     obtain ⟨c', hb⟩ := hst i (by omega) c
     rw [if_neg (by omega)] at hb
     rw [whileO_end hb, List.take_of_length_le (by omega)]
    | succ m ih =>
     intro i c hi
     obtain ⟨c', hb⟩ := hst i (by omega) c
     rw [if_pos (by omega)] at hb
     rw [whileO_stp hb]
     exact ih (i + 1) c' (by omega)
   exact hall l.length 0 _ (by omega)
  show ∃ d' r' e, (some (if (takeF frm 3 d.Faults).1.isSome = true then _ else _) : Option (api.Disk × Int)) = some (d', e) ∧ (if (takeF frm 3 r.Faults).1.isSome = true then some (({ r with Faults := (takeF frm 3 r.Faults).2 } : api.Disk), (15 : Int)) else (((if frm = to then some (r.Files, (takeF frm 3 r.Faults).2) else (mewsref16.Remove { r with Faults := (takeF frm 3 r.Faults).2 } to).bind fun r171 => some (r171.Files, r171.Faults)) : Option (List api.File × List api.Fault)).bind fun s168 => (mewsref16.Files ({ Files := s168.1, Faults := s168.2 } : api.Disk)).bind fun r174 => (mewsref16.Rename.loop0 r174 frm (sfF y, true) to ⟨0, (sfF y).Name, ([] : List api.File)⟩).bind fun s243 => some (({ Files := s243, Faults := s168.2 } : api.Disk), (0 : Int)))) = some (r', e) ∧ _
  rw [h.t, ← hfl, hmid, Option.bind_some, Files_eq (by show l1.length < 1000000; omega), Option.bind_some]
  show ∃ d' r' e, (some (if (takeF frm 3 r.Faults).1.isSome = true then _ else _) : Option (api.Disk × Int)) = some (d', e) ∧ (if (takeF frm 3 r.Faults).1.isSome = true then some (({ r with Faults := fl } : api.Disk), (15 : Int)) else (mewsref16.Rename.loop0 (cnt l1) frm (sfF y, true) to ⟨0, (sfF y).Name, ([] : List api.File)⟩).bind fun s243 => some (({ Files := s243, Faults := fl } : api.Disk), (0 : Int))) = some (r', e) ∧ _
  rw [hloop, Option.bind_some]
  by_cases hi : (takeF frm 3 r.Faults).1.isSome = true
  ·rw [if_pos hi, if_pos hi]
   exact ⟨_, _, _, rfl, rfl, ⟨h.m, rfl⟩, ⟨Nat.le_trans hd.f (by omega), by show fl.length ≤ _; omega, fun x hx => Nat.le_trans (hd.b x hx) (by omega)⟩, ⟨Nat.le_trans hr.f (by omega), by show fl.length ≤ _; omega, fun x hx => Nat.le_trans (hr.b x hx) (by omega)⟩⟩
  ·rw [if_neg hi, if_neg hi]
   refine ⟨_, _, _, rfl, rfl, ⟨fun k => ?_, rfl⟩, hd.sub (renF_len _ _ _) (fun x hx => renF_mem frm to hx) _ hfll, hr.sub (by rw [List.length_map]; exact Nat.le_trans (cnt_len _) hl1len) (fun x hx => ?_) _ hfll⟩
   ·show mm (renF frm to d.Files) k = mm ((cnt l1).map (rnF frm to (sfF y))) k
    have hds : (look d.Files frm).isSome = true := by rw [← mm_iff, h.m, e]; rfl
    unfold mm
    rw [look_renF_all frm to k hds, look_rnF frm to k (sfF y) (cnt l1) fun hne => by rw [look_cnt_mm, hmm1, if_neg hne, if_pos rfl], look_cnt_mm, look_cnt_mm, hmm1, hmm1]
    have hdf : (look d.Files frm).map sfF = some (sfF y) := by have := h.m frm; rw [e] at this; exact this
    have hf1 : (if frm = to then mm r.Files frm else if frm = to then none else mm r.Files frm) = some (sfF y) := by
     rw [e]
     split <;> rfl
    rw [hf1]
    by_cases hk : k = to
    ·rw [if_pos hk, if_pos hk, if_pos (show (some (sfF y)).isSome = true from rfl)]
     cases hq : look d.Files frm with
     | none => rw [hq] at hds; cases hds
     | some z =>
      rw [hq] at hdf
      have hz : sfF z = sfF y := Option.some.inj hdf
      show some (sfF { z with Name := to }) = some (sfF { (sfF y) with Name := to })
      rw [← hz]
      have := sfF_sfF z
      unfold sfF at this ⊢
      congr 1
      show ({ Name := to, Data := z.Data, Synced := (clampN z.Synced z.Data.length : Int) } : api.File) = { Name := to, Data := z.Data, Synced := (clampN (clampN z.Synced z.Data.length : Int) z.Data.length : Int) }
      rw [clampN_self]
    ·rw [if_neg hk, if_neg hk]
     by_cases hk2 : k = frm
     ·rw [if_pos hk2, if_pos hk2]
     ·rw [if_neg hk2, if_neg hk2, if_neg hk]
      have := h.m k
      rw [show (if frm = to then mm r.Files k else mm r.Files k) = mm r.Files k by split <;> rfl]
      unfold mm at this ⊢
      rw [this]
      cases look r.Files k with
      | none => rfl
      | some x => show some (sfF x) = some (sfF (sfF x)); rw [sfF_sfF]
   ·obtain ⟨z, hz, rfl⟩ := List.mem_map.1 hx
    unfold rnF
    split
    ·exact ⟨y, hy, Nat.le_refl _⟩
    ·obtain ⟨w, hw, rfl⟩ := cnt_mem hz
     exact hl1mem w hw

/-! ### Crash -/
theorem sfF_crF (keeps : List api.Keep) (x : api.File) : sfF (crF keeps x) = crF keeps x := by
 obtain ⟨h1, _⟩ := leftN_le keeps x
 have hl : (x.Data.take (leftN keeps x)).length = leftN keeps x := by rw [List.length_take]; omega
 show ({ Name := x.Name, Data := x.Data.take (leftN keeps x), Synced := (clampN (leftN keeps x : Int) (x.Data.take (leftN keeps x)).length : Int) } : api.File) = _
 rw [hl, show clampN (leftN keeps x : Int) (leftN keeps x) = leftN keeps x by unfold clampN; omega]
 rfl
theorem moreN_sfF (keeps : List api.Keep) (x : api.File) : moreN keeps (sfF x) = moreN keeps x := by
 unfold moreN
 have e : idxF (isK (sfF x)) keeps 0 = idxF (isK x) keeps 0 := rfl
 rw [e]
 cases idxF (isK x) keeps 0 with
 | none => rfl
 | some i =>
  show clampN _ (x.Data.length - clampN (clampN x.Synced x.Data.length : Int) x.Data.length) = _
  rw [clampN_self]
theorem crF_sfF (keeps : List api.Keep) (x : api.File) : crF keeps (sfF x) = crF keeps x := by
 have : leftN keeps (sfF x) = leftN keeps x := by
  unfold leftN
  rw [moreN_sfF]
  show clampN (clampN x.Synced x.Data.length : Int) x.Data.length + _ = _
  rw [clampN_self]
 unfold crF
 rw [this]
 rfl

/-- What the document keeps of a file more than what is safe, by the keeps from a place on. -/
def moreR (f : api.File) : List api.Keep → Nat
 | [] => 0
 | k :: ks => if isK f k then clampN k.Bytes (f.Data.length - clampN f.Synced f.Data.length) else moreR f ks

theorem moreR_cons (f : api.File) (k : api.Keep) (ks : List api.Keep) : moreR f (k :: ks) = if isK f k then clampN k.Bytes (f.Data.length - clampN f.Synced f.Data.length) else moreR f ks := rfl

theorem moreR_eq (f : api.File) : ∀ (ks all : List api.Keep) (j : Nat), ks = all.drop j → moreR f ks = match idxF (isK f) ks j with | some i => clampN (ix all (i : Int)).Bytes (f.Data.length - clampN f.Synced f.Data.length) | none => 0
 | [], _, _, _ => rfl
 | k :: ks, all, j, h => by
  have hj : j < all.length := by
   rcases Nat.lt_or_ge j all.length with hj | hj
   ·exact hj
   ·rw [List.drop_of_length_le hj] at h; cases h
  have hd := List.drop_eq_getElem_cons hj
  rw [← h] at hd
  obtain ⟨e1, e2⟩ := List.cons.inj hd
  unfold moreR idxF
  by_cases hk : isK f k = true
  ·rw [if_pos hk, if_pos hk]
   show _ = clampN (ix all (j : Int)).Bytes _
   rw [ix_get hj, ← e1]
  ·rw [if_neg hk, if_neg hk]
   exact moreR_eq f ks all (j + 1) e2

theorem moreR_moreN (keeps : List api.Keep) (f : api.File) : moreR f keeps = moreN keeps f := moreR_eq f keeps keeps 0 rfl

theorem RCrash_eq {d : api.Disk} (keeps : List api.Keep) (hd : d.Files.length < 1000000) (hb : ∀ x, x ∈ d.Files → x.Data.length < 1000000) (hk : keeps.length < 1000000) : mewsref16.Crash d keeps = some { Files := (cnt d.Files).map (crF keeps), Faults := [] } := by
 have hcl := cnt_len d.Files
 have hcs : ∀ x, x ∈ cnt d.Files → sfF x = x ∧ x.Data.length < 1000000 := fun x hx => by
  obtain ⟨y, hy, rfl⟩ := cnt_mem hx
  exact ⟨sfF_sfF y, hb y hy⟩
 unfold mewsref16.Crash
 rw [Files_eq hd, Option.bind_some]
 generalize cnt d.Files = l at hcl hcs
 have hloop : mewsref16.Crash.loop0 l keeps ⟨0, []⟩ = some (l.map (crF keeps)) := by
  unfold mewsref16.Crash.loop0
  refine whileO_knownE ⟨0, []⟩ (fun i => (⟨(i : Int), (l.take i).map (crF keeps)⟩ : mewsref16.Crash.S0)) l.length (fun i hi => ?_) ?_
  ·unfold mewsref16.Crash.body0
   have hin : InB (i : Int) l.length := ⟨by omega, by omega⟩
   obtain ⟨hs1, hs2⟩ := hcs l[i] (List.getElem_mem hi)
   have hix : ix l (i : Int) = l[i] := ix_get hi
   obtain ⟨f, hf⟩ : ∃ f, f = l[i] := ⟨_, rfl⟩
   rw [← hf] at hs1 hs2 hix
   have hsy : f.Synced = (clampN f.Synced f.Data.length : Int) := by
    have := congrArg api.File.Synced hs1
    exact this.symm
   have hcl2 := clampN_le f.Synced f.Data.length
   have hin2 : mewsref16.Crash.loop2 keeps l ⟨(i : Int), (l.take i).map (crF keeps)⟩ ⟨0, IntKind.wrap .i64 ((keeps.length : Int) - 1)⟩ = some (moreR f keeps : Int) := by
    have hgo : ∀ (m : Nat) (tail : List api.Keep), m ≤ keeps.length → tail = keeps.drop m → mewsref16.Crash.loop2 keeps l ⟨(i : Int), (l.take i).map (crF keeps)⟩ ⟨(moreR f tail : Int), (m : Int) - 1⟩ = some (moreR f keeps : Int) := by
     intro m
     induction m with
     | zero =>
      intro tail _ ht
      rw [List.drop_zero] at ht
      subst ht
      unfold mewsref16.Crash.loop2
      refine whileO_end ?_
      unfold mewsref16.Crash.body2
      exact if_neg (by show ¬ (0 : Int) ≤ ((0 : Nat) : Int) - 1; omega)
     | succ m ih =>
      intro tail hm ht
      have hm' : m < keeps.length := by omega
      have hd := List.drop_eq_getElem_cons hm'
      unfold mewsref16.Crash.loop2
      rw [whileO_stp (s' := ⟨(moreR f (keeps.drop m) : Int), (m : Int) - 1⟩)]
      ·exact ih _ (by omega) rfl
      ·unfold mewsref16.Crash.body2
       show (if (0 : Int) ≤ ((m + 1 : Nat) : Int) - 1 then _ else _) = _
       rw [if_pos (by omega)]
       have em : ((m + 1 : Nat) : Int) - 1 = (m : Int) := by omega
       show ((need (InB (((m + 1 : Nat) : Int) - 1) keeps.length) (if (ix keeps (((m + 1 : Nat) : Int) - 1)).Name = (ix l (i : Int)).Name then need (InB (((m + 1 : Nat) : Int) - 1) keeps.length) ((mewsref16.between (ix keeps (((m + 1 : Nat) : Int) - 1)).Bytes (IntKind.wrap .i64 (((ix l (i : Int)).Data.length : Int) - (ix l (i : Int)).Synced))).bind fun r1163 => some r1163) else some (moreR f tail : Int))).bind fun s1158 => some (Sum.inl (⟨s1158, IntKind.wrap .i64 ((((m + 1 : Nat) : Int) - 1) - 1)⟩ : mewsref16.Crash.S2))) = _
       rw [em, hix, need_eq ⟨by omega, by omega⟩, need_eq ⟨by omega, by omega⟩, ix_get hm', hsy, i64w (n := (f.Data.length : Int) - (clampN f.Synced f.Data.length : Int)) (by omega) (by omega), show (f.Data.length : Int) - (clampN f.Synced f.Data.length : Int) = ((f.Data.length - clampN f.Synced f.Data.length : Nat) : Int) by omega, between_eq, Option.bind_some, i64w (by omega) (by omega), hd, ht]
       rw [moreR_cons]
       unfold isK
       by_cases hkn : keeps[m].Name = f.Name
       ·rw [if_pos hkn, decide_eq_true hkn, if_pos rfl]; rfl
       ·rw [if_neg hkn, decide_eq_false hkn, if_neg (by decide)]
        rfl
    have := hgo keeps.length [] (by omega) (by rw [List.drop_length])
    rw [i64w (by omega) (by omega)]
    exact this
   rw [show (if (⟨(i : Int), (l.take i).map (crF keeps)⟩ : mewsref16.Crash.S0).i < (l.length : Int) then _ else _) = _ from if_pos (show (i : Int) < (l.length : Int) by omega)]
   show need (InB (i : Int) l.length) ((mewsref16.Crash.loop2 keeps l ⟨(i : Int), (l.take i).map (crF keeps)⟩ ⟨0, IntKind.wrap .i64 ((keeps.length : Int) - 1)⟩).bind _) = _
   rw [need_eq hin, hin2, Option.bind_some, moreR_moreN]
   obtain ⟨hl1, hl2⟩ := leftN_le keeps f
   have hw : IntKind.wrap .i64 ((ix l (i : Int)).Synced + (moreN keeps f : Int)) = (leftN keeps f : Int) := by
    have : (ix l (i : Int)).Synced + (moreN keeps f : Int) = (leftN keeps f : Int) := by
     rw [hix, hsy]
     unfold leftN
     rw [← hsy]
     rw [hsy]
     rw [show clampN (clampN f.Synced f.Data.length : Int) f.Data.length = clampN f.Synced f.Data.length from clampN_self _ _]
     omega
    rw [this, i64w (by omega) (by omega)]
   show need (InR 0 (IntKind.wrap .i64 ((ix l (i : Int)).Synced + (moreN keeps f : Int))) (ix l (i : Int)).Data.length) (need ((((l.take i).map (crF keeps)).length + 1) * 40 ≤ 140737488355328) (some (Sum.inl (⟨IntKind.wrap .i64 ((i : Int) + 1), (l.take i).map (crF keeps) ++ [({ Name := (ix l (i : Int)).Name, Data := sub (ix l (i : Int)).Data 0 (IntKind.wrap .i64 ((ix l (i : Int)).Synced + (moreN keeps f : Int))), Synced := IntKind.wrap .i64 ((ix l (i : Int)).Synced + (moreN keeps f : Int)) } : api.File)]⟩ : mewsref16.Crash.S0)))) = _
   rw [hw, hix, need_eq ⟨by omega, by omega, by omega⟩, need_eq (by rw [List.length_map, List.length_take]; omega), sub0, i64w (by omega) (by omega), show (i : Int) + 1 = ((i + 1 : Nat) : Int) by omega, List.take_add_one, List.getElem?_eq_getElem hi, List.map_append, ← hf]
   rfl
  ·unfold mewsref16.Crash.body0
   show (if (l.length : Int) < (l.length : Int) then _ else _) = _
   rw [if_neg (by omega), List.take_length]
 rw [hloop]
 rfl

theorem Crash_step {n : Nat} {d r : api.Disk} (h : Rl d r) (hd : BD n d) (hr : BD n r) (keeps : List api.Keep) (hk : keeps.length < 1000000) (hn : n + 1 ≤ 800000) :
  ∃ d' r', disk.Crash d keeps = some d' ∧ mewsref16.Crash r keeps = some r' ∧ Rl d' r' ∧ BD (n + 1) d' ∧ BD (n + 1) r' := by
 have hdf := hd.f
 have hrf := hr.f
 have hcr : ∀ x : api.File, (crF keeps x).Data.length ≤ x.Data.length := fun x => by
  show (x.Data.take _).length ≤ _
  rw [List.length_take]; omega
 refine ⟨_, _, Crash_eq d keeps (by omega) (fun x hx => by have := hd.b x hx; omega) hk, RCrash_eq keeps (by omega) (fun x hx => by have := hr.b x hx; omega) hk, ⟨fun k => ?_, rfl⟩, hd.sub (by rw [List.length_map]; exact fsts_len _ _) (fun x hx => ?_) _ (by simp), hr.sub (by rw [List.length_map]; exact cnt_len _) (fun x hx => ?_) _ (by simp)⟩
 ·show mm ((fstA d.Files).map (crF keeps)) k = mm ((cnt r.Files).map (crF keeps)) k
  have := h.m k
  unfold mm at this ⊢
  rw [look_fstA d.Files (crF keeps) (fun _ => rfl), look_map (g := crF keeps) (fun _ => rfl), look_cnt, ← this]
  cases look d.Files k with
  | none => rfl
  | some x => show some (sfF (crF keeps x)) = some (sfF (crF keeps (sfF x))); rw [crF_sfF]
 ·obtain ⟨y, hy, rfl⟩ := List.mem_map.1 hx
  obtain ⟨i, hi, _, rfl⟩ := fstA_mem hy
  exact ⟨_, by rw [ix_get hi]; exact List.getElem_mem hi, hcr _⟩
 ·obtain ⟨y, hy, rfl⟩ := List.mem_map.1 hx
  obtain ⟨w, hw, rfl⟩ := cnt_mem hy
  exact ⟨w, hw, hcr _⟩

end Go.Pu
