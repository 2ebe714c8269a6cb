import Derived.Test.YtmognhokagemiaaGreatRLPuDisk5A
set_option maxHeartbeats 0
set_option maxRecDepth 100000
namespace Go.Pu
open Go.Lift

/-- The files that count, as the document has them. -/
def cnt (l : List api.File) : List api.File := (fstA l).map sfF

theorem cnt_nodup (l : List api.File) : ((cnt l).map (·.Name)).Nodup := by
 unfold cnt
 rw [List.map_map]
 exact fstA_nodup l
theorem sfF_sfF (x : api.File) : sfF (sfF x) = sfF x := by
 unfold sfF
 rw [clampN_self]
theorem look_cnt (l : List api.File) (k : List UInt8) : look (cnt l) k = (look l k).map sfF := look_fstA l sfF (fun _ => rfl) k
theorem cnt_len (l : List api.File) : (cnt l).length ≤ l.length := by
 unfold cnt
 rw [List.length_map]
 exact fsts_len _ _
theorem cnt_mem {l : List api.File} {x : api.File} (h : x ∈ cnt l) : ∃ y, y ∈ l ∧ x = sfF y := by
 obtain ⟨y, hy, rfl⟩ := List.mem_map.1 h
 obtain ⟨i, hi, _, rfl⟩ := fstA_mem hy
 exact ⟨_, by rw [ix_get hi]; exact List.getElem_mem hi, rfl⟩
theorem btw_eq (n : Int) (m : Nat) : mewsref16.between n (m : Int) = some (clampN n m : Int) := by
 unfold mewsref16.between clampN
 split
 ·congr 1; omega
 ·split
  ·congr 1; omega
  ·congr 1; omega

/-- What the document finds. -/
def lookR (l : List api.File) (name : List UInt8) : api.File × Bool := match look l name with | some x => (sfF x, true) | none => (⟨[], [], 0⟩, false)

theorem RFind_eq {d : api.Disk} (h : d.Files.length < 1000000000) (name : List UInt8) : mewsref16.Find d name = some (lookR d.Files name) := by
 have hloop : mewsref16.Find.loop0 d name ⟨0⟩ = some (match idxF (isN name) d.Files 0 with | some i => (Sum.inr (sfF (ix d.Files (i : Int)), true) : Unit ⊕ (api.File × Bool)) | none => Sum.inl ()) := by
  unfold mewsref16.Find.loop0
  refine (whileO_idxE ⟨0⟩ (fun i => (⟨(i : Int)⟩ : mewsref16.Find.S0)) d.Files (isN name) (fun i => (Sum.inr (sfF (ix d.Files (i : Int)), true) : Unit ⊕ (api.File × Bool))) (Sum.inl ()) (fun i hi => ?_) ?_).trans ?_
  ·unfold mewsref16.Find.body0
   show (if (i : Int) < (d.Files.length : Int) then _ else _) = _
   rw [if_pos (by omega), need_eq ⟨by show (0 : Int) ≤ (i : Int); omega, by show (i : Int) < (d.Files.length : Int); omega⟩]
   show (if (ix d.Files (i : Int)).Name = name then _ else _) = _
   unfold isN
   rw [← ix_get hi]
   by_cases e : (ix d.Files (i : Int)).Name = name
   ·rw [if_pos e, decide_eq_true e, if_pos rfl]
    show ((mewsref16.between (ix d.Files (i : Int)).Synced ((ix d.Files (i : Int)).Data.length : Int)).bind _) = _
    rw [btw_eq, Option.bind_some]
    rfl
   ·rw [if_neg e, decide_eq_false e, if_neg (by decide)]
    show some (Sum.inl (⟨IntKind.wrap .i64 ((i : Int) + 1)⟩ : mewsref16.Find.S0)) = _
    rw [i64w (by omega) (by omega), show (i : Int) + 1 = ((i + 1 : Nat) : Int) by omega]
  ·unfold mewsref16.Find.body0
   exact if_neg (by show ¬ (d.Files.length : Int) < (d.Files.length : Int); omega)
  ·cases idxF (isN name) d.Files 0 <;> rfl
 unfold mewsref16.Find
 rw [hloop]
 unfold lookR
 rcases idxF_cases (isN name) d.Files 0 with ⟨h1, h2⟩ | ⟨a, x, b, h1, h2, h3, h4⟩
 ·rw [h1, look_none fun x hx => isN_not.1 (h2 x hx)]
  rfl
 ·rw [h2, show ((0 + a.length : Nat)) = a.length by omega]
  have e1 : look d.Files name = some x := by rw [h1]; exact look_mid (isN_iff.1 h3) fun y hy => isN_not.1 (h4 y hy)
  have e2 : ix d.Files (a.length : Int) = x := by rw [h1]; exact ix_mid rfl
  rw [e1]
  show some (sfF (ix d.Files (a.length : Int)), true) = _
  rw [e2]

theorem fx_first {l : List api.File} {i : Nat} (hi : i < l.length) : (fx l (ix l (i : Int)).Name = (i : Int)) ↔ (l.take i).any (isN (ix l (i : Int)).Name) = false := by
 rw [ix_get hi]
 constructor
 ·intro h
  rcases fx_cases l l[i].Name with ⟨h1, _⟩ | ⟨a, x, b, h1, h2, h3, h4⟩
  ·omega
  ·have : a.length = i := by omega
   rw [Bool.eq_false_iff]
   intro hany
   obtain ⟨y, hy, hy2⟩ := List.any_eq_true.1 hany
   rw [h1, ← this, List.take_left] at hy
   refine h4 y hy ?_
   have := isN_iff.1 hy2
   simpa [h1] using this
 ·intro h
  rcases fx_cases l l[i].Name with ⟨_, h2⟩ | ⟨a, x, b, h1, h2, h3, h4⟩
  ·exact absurd rfl (h2 _ (List.getElem_mem hi))
  ·rw [h2]
   rcases Nat.lt_trichotomy a.length i with hlt | he | hgt
   ·exfalso
    have hx : x ∈ l.take i := by
     have : (l.take i)[a.length]? = some x := by rw [List.getElem?_take_of_lt hlt, h1]; simp
     exact List.mem_of_getElem? this
    have := List.any_eq_false.1 h x hx
    exact this (isN_iff.2 h3)
   ·omega
   ·exfalso
    have : l[i] = a[i]'hgt := by
     have : l[i]? = some (a[i]'hgt) := by rw [h1, List.getElem?_append_left hgt, List.getElem?_eq_getElem hgt]
     rw [List.getElem?_eq_getElem hi] at this
     exact Option.some.inj this
    refine h4 _ (List.getElem_mem hgt) ?_
    rw [← this]

theorem Files_eq {d : api.Disk} (hd : d.Files.length < 1000000) : mewsref16.Files d = some (cnt d.Files) := by
 have hloop : mewsref16.Files.loop0 d ⟨[], 0⟩ = some ((fstA d.Files).map sfF) := by
  unfold mewsref16.Files.loop0
  refine whileO_knownE ⟨[], 0⟩ (fun i => (⟨(fsts d.Files i).map sfF, (i : Int)⟩ : mewsref16.Files.S0)) d.Files.length (fun i hi => ?_) ?_
  ·unfold mewsref16.Files.body0
   show (if (i : Int) < (d.Files.length : Int) then _ else _) = _
   rw [if_pos (by omega)]
   have hin : InB (i : Int) d.Files.length := ⟨by omega, by omega⟩
   have h2 : mewsref16.Files.loop2 ⟨(fsts d.Files i).map sfF, (i : Int)⟩ d ⟨false, 0⟩ = some ((d.Files.take i).any (isN (ix d.Files (i : Int)).Name)) := by
    unfold mewsref16.Files.loop2
    refine whileO_knownE ⟨false, 0⟩ (fun k => (⟨(d.Files.take k).any (isN (ix d.Files (i : Int)).Name), (k : Int)⟩ : mewsref16.Files.S2)) i (fun k hk => ?_) ?_
    ·unfold mewsref16.Files.body2
     show (if (k : Int) < (i : Int) then _ else _) = _
     rw [if_pos (by omega)]
     show ((if ((d.Files.take k).any (isN (ix d.Files (i : Int)).Name)) = true then some true else need (InB (k : Int) d.Files.length) (need (InB (i : Int) d.Files.length) (some (decide ((ix d.Files (k : Int)).Name = (ix d.Files (i : Int)).Name))))).bind _) = _
     rw [need_eq ⟨by omega, by omega⟩, need_eq hin]
     have e : (if ((d.Files.take k).any (isN (ix d.Files (i : Int)).Name)) = true then some true else some (decide ((ix d.Files (k : Int)).Name = (ix d.Files (i : Int)).Name))) = some ((d.Files.take (k + 1)).any (isN (ix d.Files (i : Int)).Name)) := by
      have hk2 : k < d.Files.length := by omega
      rw [List.take_add_one, List.getElem?_eq_getElem hk2, List.any_append, ← ix_get hk2]
      cases (d.Files.take k).any (isN (ix d.Files (i : Int)).Name)
      ·rw [if_neg (by decide)]; simp [isN]
      ·rw [if_pos rfl]; rfl
     rw [e, Option.bind_some]
     show some (Sum.inl (⟨_, IntKind.wrap .i64 ((k : Int) + 1)⟩ : mewsref16.Files.S2)) = _
     rw [i64w (by omega) (by omega), show (k : Int) + 1 = ((k + 1 : Nat) : Int) by omega]
    ·unfold mewsref16.Files.body2
     exact if_neg (by show ¬ (i : Int) < (i : Int); omega)
   rw [h2]
   have hw : IntKind.wrap .i64 ((i : Int) + 1) = ((i + 1 : Nat) : Int) := by rw [i64w (by omega) (by omega)]; omega
   have hlen := fsts_len d.Files i
   show _ = some (Sum.inl (⟨(fsts d.Files (i + 1)).map sfF, ((i + 1 : Nat) : Int)⟩ : mewsref16.Files.S0))
   rw [fsts_succ]
   have hff := fx_first hi
   by_cases hany : (d.Files.take i).any (isN (ix d.Files (i : Int)).Name) = true
   ·have hne : ¬ fx d.Files (ix d.Files (i : Int)).Name = (i : Int) := fun e => by rw [hff.1 e] at hany; cases hany
    rw [hany, if_neg hne, List.append_nil]
    show some (Sum.inl (⟨_, IntKind.wrap .i64 ((i : Int) + 1)⟩ : mewsref16.Files.S0)) = _
    rw [hw]
   ·have hany' : (d.Files.take i).any (isN (ix d.Files (i : Int)).Name) = false := by simpa using hany
    have hfx := hff.2 hany'
    rw [hany', if_pos hfx]
    show ((need (InB (i : Int) d.Files.length) ((mewsref16.Find d (ix d.Files (i : Int)).Name).bind _)).bind _) = _
    rw [need_eq hin, RFind_eq (by omega), Option.bind_some]
    have hl : lookR d.Files (ix d.Files (i : Int)).Name = (sfF (ix d.Files (i : Int)), true) := by
     rcases fx_cases d.Files (ix d.Files (i : Int)).Name with ⟨h1, _⟩ | ⟨a, x, b, h1, h2, h3, h4⟩
     ·omega
     ·have hi2 : (i : Int) = (a.length : Int) := by omega
      have hx : ix d.Files (i : Int) = x := by rw [h1]; exact ix_mid hi2
      unfold lookR
      rw [show look d.Files (ix d.Files (i : Int)).Name = some x by
       conv => lhs; arg 1; rw [h1]
       exact look_mid h3 h4, hx]
    rw [hl]
    show ((need ((((fsts d.Files i).map sfF).length + 1) * 40 ≤ 140737488355328) (some ((fsts d.Files i).map sfF ++ [sfF (ix d.Files (i : Int))]))).bind _) = _
    rw [need_eq (by rw [List.length_map]; omega), Option.bind_some]
    show some (Sum.inl (⟨_, IntKind.wrap .i64 ((i : Int) + 1)⟩ : mewsref16.Files.S0)) = _
    rw [hw, List.map_append]
    rfl
  ·unfold mewsref16.Files.body0
   exact if_neg (by show ¬ (d.Files.length : Int) < (d.Files.length : Int); omega)
 unfold mewsref16.Files
 rw [hloop]
 rfl

/-- A file in the place of that of its name. -/
def repF (f x : api.File) : api.File := if x.Name = f.Name then f else x
def setF (f : api.File) (l : List api.File) : List api.File := if l.any (isN f.Name) then l.map (repF f) else l.map (repF f) ++ [f]

theorem repF_name (f x : api.File) : (repF f x).Name = x.Name := by
 unfold repF
 split
 ·rename_i h; exact h.symm
 ·rfl

theorem look_map {g : api.File → api.File} (hg : ∀ x, (g x).Name = x.Name) (k : List UInt8) : ∀ l : List api.File, look (l.map g) k = (look l k).map g
 | [] => rfl
 | x :: l => by
  unfold look
  rw [List.map_cons, List.find?_cons, List.find?_cons]
  have : isN k (g x) = isN k x := by unfold isN; rw [hg]
  rw [this]
  cases isN k x with
  | true => rfl
  | false => exact look_map hg k l

theorem look_any {l : List api.File} {k : List UInt8} : l.any (isN k) = (look l k).isSome := by
 unfold look
 cases h : l.find? (isN k) with
 | none =>
  rw [Option.isSome_none, List.any_eq_false]
  exact fun x hx => List.find?_eq_none.1 h x hx
 | some x =>
  rw [Option.isSome_some, List.any_eq_true]
  exact ⟨x, List.mem_of_find?_eq_some h, List.find?_some h⟩

theorem look_setF (f : api.File) (l : List api.File) (k : List UInt8) : look (setF f l) k = if k = f.Name then some f else look l k := by
 have hne : k ≠ f.Name → (look l k).map (repF f) = look l k := fun h => by
  cases e : look l k with
  | none => rfl
  | some x =>
   show some (repF f x) = some x
   unfold repF
   rw [if_neg]
   rw [(look_some e).2]
   exact h
 unfold setF
 rw [look_any]
 cases e : look l f.Name with
 | some x =>
  rw [if_pos (show (some x).isSome = true from rfl), look_map (repF_name f)]
  by_cases hk : k = f.Name
  ·subst hk
   rw [if_pos rfl, e]
   show some (repF f x) = some f
   unfold repF
   rw [if_pos (look_some e).2]
  ·rw [if_neg hk, hne hk]
 | none =>
  rw [if_neg (by simp), look_append, look_map (repF_name f)]
  by_cases hk : k = f.Name
  ·subst hk
   rw [if_pos rfl, e]
   show look [f] f.Name = some f
   exact look_mid (a := []) rfl (by simp)
  ·rw [if_neg hk, hne hk]
   have : look [f] k = none := look_none fun x hx => by
    obtain rfl : x = f := by simpa using hx
    exact fun e => hk e.symm
   rw [this]
   cases look l k <;> rfl

theorem setF_len (f : api.File) (l : List api.File) : (setF f l).length ≤ l.length + 1 := by
 unfold setF
 split
 ·rw [List.length_map]; omega
 ·rw [List.length_append, List.length_map]; simp

theorem setF_mem {f : api.File} {l : List api.File} {x : api.File} (h : x ∈ setF f l) : x = f ∨ x ∈ l := by
 have hm : ∀ x, x ∈ l.map (repF f) → x = f ∨ x ∈ l := fun x hx => by
  obtain ⟨y, hy, rfl⟩ := List.mem_map.1 hx
  unfold repF
  split
  ·exact .inl rfl
  ·exact .inr hy
 unfold setF at h
 split at h
 ·exact hm x h
 ·rcases List.mem_append.1 h with h | h
  ·exact hm x h
  ·exact .inl (by simpa using h)

theorem with_eq {d : api.Disk} (hd : d.Files.length < 1000000) (f : api.File) : mewsref16.with_ d f = some { d with Files := setF f (cnt d.Files) } := by
 have hcl := cnt_len d.Files
 unfold mewsref16.with_
 rw [Files_eq hd, Option.bind_some]
 generalize cnt d.Files = l at hcl
 have hloop : mewsref16.with_.loop0 l f ⟨false, 0, []⟩ = some (l.any (isN f.Name), l.map (repF f)) := by
  unfold mewsref16.with_.loop0
  refine whileO_knownE ⟨false, 0, []⟩ (fun i => (⟨(l.take i).any (isN f.Name), (i : Int), (l.take i).map (repF f)⟩ : mewsref16.with_.S0)) l.length (fun i hi => ?_) ?_
  ·unfold mewsref16.with_.body0
   show (if (i : Int) < (l.length : Int) then _ else _) = _
   rw [if_pos (by omega)]
   have hin : InB (i : Int) l.length := ⟨by omega, by omega⟩
   have hw : IntKind.wrap .i64 ((i : Int) + 1) = ((i + 1 : Nat) : Int) := by rw [i64w (by omega) (by omega)]; omega
   show ((need (InB (i : Int) l.length) (if (ix l (i : Int)).Name = f.Name then need ((((l.take i).map (repF f)).length + 1) * 40 ≤ 140737488355328) (some (true, (l.take i).map (repF f) ++ [f])) else need (InB (i : Int) l.length) (need ((((l.take i).map (repF f)).length + 1) * 40 ≤ 140737488355328) (some ((l.take i).any (isN f.Name), (l.take i).map (repF f) ++ [ix l (i : Int)]))))).bind _) = _
   rw [need_eq hin, need_eq hin, need_eq (by rw [List.length_map, List.length_take]; omega), need_eq (by rw [List.length_map, List.length_take]; omega)]
   have e : (if (ix l (i : Int)).Name = f.Name then some (true, (l.take i).map (repF f) ++ [f]) else some ((l.take i).any (isN f.Name), (l.take i).map (repF f) ++ [ix l (i : Int)])) = some ((l.take (i + 1)).any (isN f.Name), (l.take (i + 1)).map (repF f)) := by
    rw [List.take_add_one, List.getElem?_eq_getElem hi, List.any_append, List.map_append, ← ix_get hi]
    by_cases h : (ix l (i : Int)).Name = f.Name
    ·rw [if_pos h]
     simp [isN, repF, h]
    ·rw [if_neg h]
     simp [isN, repF, h]
   rw [e, Option.bind_some]
   show some (Sum.inl (⟨_, IntKind.wrap .i64 ((i : Int) + 1), _⟩ : mewsref16.with_.S0)) = _
   rw [hw]
  ·unfold mewsref16.with_.body0
   show (if (l.length : Int) < (l.length : Int) then _ else _) = _
   rw [if_neg (by omega), List.take_length]
 rw [hloop, Option.bind_some]
 unfold setF
 show ((if (!l.any (isN f.Name)) = true then need (((l.map (repF f)).length + 1) * 40 ≤ 140737488355328) (some (l.map (repF f) ++ [f])) else some (l.map (repF f))).bind _) = _
 rw [need_eq (by rw [List.length_map]; omega)]
 cases l.any (isN f.Name) <;> rfl

theorem Meets_eq {d : api.Disk} (hd : d.Faults.length < 1000000) (name : List UInt8) (kind : Int) : mewsref16.Meets d name kind = some ({ d with Faults := (takeF name kind d.Faults).2 }, (takeF name kind d.Faults).1.getD ⟨[], 0, 0⟩, (takeF name kind d.Faults).1.isSome) := by
 have hloop : mewsref16.Meets.loop0 d name kind ⟨false, 0, [], [], 0, 0⟩ = some ((takeF name kind d.Faults).1.isSome, (takeF name kind d.Faults).2, ((takeF name kind d.Faults).1.getD ⟨[], 0, 0⟩).Name, ((takeF name kind d.Faults).1.getD ⟨[], 0, 0⟩).Kind, ((takeF name kind d.Faults).1.getD ⟨[], 0, 0⟩).Short) := by
  generalize hl : d.Faults = l
  have hd' : l.length < 1000000 := by rw [← hl]; exact hd
  -- behind the first that is met
  have hrest : ∀ (m i : Nat) (c : List api.Fault) (f : api.Fault), i + m = l.length → c.length ≤ i → mewsref16.Meets.loop0 d name kind ⟨true, (i : Int), c, f.Name, f.Kind, f.Short⟩ = some (true, c ++ l.drop i, f.Name, f.Kind, f.Short) := by
   intro m
   induction m with
   | zero =>
    intro i c f hi hc
    unfold mewsref16.Meets.loop0
    refine whileO_end ?_
    unfold mewsref16.Meets.body0
    show (if (i : Int) < (d.Faults.length : Int) then _ else _) = _
    rw [if_neg (by rw [hl]; omega), List.drop_of_length_le (by omega), List.append_nil]
   | succ m ih =>
    intro i c f hi hc
    have hin : i < l.length := by omega
    have hw : IntKind.wrap .i64 ((i : Int) + 1) = ((i + 1 : Nat) : Int) := by rw [i64w (by omega) (by omega)]; omega
    unfold mewsref16.Meets.loop0
    rw [whileO_stp (s' := ⟨true, ((i + 1 : Nat) : Int), c ++ [l[i]], f.Name, f.Kind, f.Short⟩)]
    ·refine (ih (i + 1) (c ++ [l[i]]) f (by omega) (by simp; omega)).trans ?_
     rw [List.append_assoc, List.drop_eq_getElem_cons hin]
     rfl
    ·unfold mewsref16.Meets.body0
     rw [hl]
     show (if (i : Int) < (l.length : Int) then _ else _) = _
     rw [if_pos (by omega)]
     show ((need (InB (i : Int) l.length) (need ((c.length + 1) * 32 ≤ 140737488355328) (some (true, c ++ [ix l (i : Int)], f.Name, f.Kind, f.Short)))).bind _) = _
     rw [need_eq ⟨by omega, by omega⟩, need_eq (by omega), Option.bind_some, ix_get hin]
     show some (Sum.inl (⟨_, IntKind.wrap .i64 ((i : Int) + 1), _, _, _, _⟩ : mewsref16.Meets.S0)) = _
     rw [hw]
  have hgo : ∀ (m i : Nat), i + m = l.length → (∀ x, x ∈ l.take i → isF name kind x = false) → mewsref16.Meets.loop0 d name kind ⟨false, (i : Int), l.take i, [], 0, 0⟩ = some ((takeF name kind l).1.isSome, (takeF name kind l).2, ((takeF name kind l).1.getD ⟨[], 0, 0⟩).Name, ((takeF name kind l).1.getD ⟨[], 0, 0⟩).Kind, ((takeF name kind l).1.getD ⟨[], 0, 0⟩).Short) := by
   intro m
   induction m with
   | zero =>
    intro i hi hno
    rw [List.take_of_length_le (by omega)] at hno ⊢
    rw [takeF_none hno]
    unfold mewsref16.Meets.loop0
    refine whileO_end ?_
    unfold mewsref16.Meets.body0
    show (if (i : Int) < (d.Faults.length : Int) then _ else _) = _
    rw [if_neg (by rw [hl]; omega)]
    rfl
   | succ m ih =>
    intro i hi hno
    have hin : i < l.length := by omega
    have hw : IntKind.wrap .i64 ((i : Int) + 1) = ((i + 1 : Nat) : Int) := by rw [i64w (by omega) (by omega)]; omega
    have htl : (l.take i).length = i := by rw [List.length_take]; omega
    have hbody : mewsref16.Meets.body0 d name kind ⟨false, (i : Int), l.take i, [], 0, 0⟩ = if isF name kind l[i] = true then some (.inl ⟨true, ((i + 1 : Nat) : Int), l.take i, l[i].Name, l[i].Kind, l[i].Short⟩) else some (.inl ⟨false, ((i + 1 : Nat) : Int), l.take i ++ [l[i]], [], 0, 0⟩) := by
     unfold mewsref16.Meets.body0
     rw [hl]
     show (if (i : Int) < (l.length : Int) then _ else _) = _
     rw [if_pos (by omega)]
     show ((need (InB (i : Int) l.length) (letO (if (ix l (i : Int)).Name = name then decide ((ix l (i : Int)).Kind = kind) else false) _)).bind _) = _
     rw [need_eq ⟨by omega, by omega⟩, ix_get hin]
     have e : (if l[i].Name = name then decide (l[i].Kind = kind) else false) = isF name kind l[i] := by
      unfold isF
      by_cases h : l[i].Name = name
      ·rw [if_pos h]; simp [h]
      ·rw [if_neg h]; simp [h]
     rw [e]
     unfold letO
     cases isF name kind l[i] with
     | true =>
      show some (Sum.inl (⟨true, IntKind.wrap .i64 ((i : Int) + 1), _, _, _, _⟩ : mewsref16.Meets.S0)) = _
      rw [hw]
      rfl
     | false =>
      show ((need (((l.take i).length + 1) * 32 ≤ 140737488355328) (some (false, l.take i ++ [l[i]], ([] : List UInt8), (0 : Int), (0 : Int)))).bind _) = _
      rw [need_eq (by omega), Option.bind_some]
      show some (Sum.inl (⟨false, IntKind.wrap .i64 ((i : Int) + 1), _, _, _, _⟩ : mewsref16.Meets.S0)) = _
      rw [hw]
      rfl
    unfold mewsref16.Meets.loop0
    cases hf : isF name kind l[i] with
    | true =>
     rw [hf, if_pos rfl] at hbody
     rw [whileO_stp hbody]
     refine (hrest m (i + 1) (l.take i) l[i] (by omega) (by omega)).trans ?_
     have hsplit : l = l.take i ++ l[i] :: l.drop (i + 1) := by
      rw [← List.drop_eq_getElem_cons hin, List.take_append_drop]
     have := takeF_mid (a := l.take i) (b := l.drop (i + 1)) hf hno
     rw [← hsplit] at this
     rw [this]
     rfl
    | false =>
     rw [hf, if_neg (by decide)] at hbody
     rw [whileO_stp hbody]
     have e : l.take i ++ [l[i]] = l.take (i + 1) := by rw [List.take_add_one, List.getElem?_eq_getElem hin]; rfl
     rw [e]
     refine ih (i + 1) (by omega) fun x hx => ?_
     rw [← e] at hx
     rcases List.mem_append.1 hx with hx | hx
     ·exact hno x hx
     ·obtain rfl : x = l[i] := by simpa using hx
      exact hf
  exact hgo l.length 0 (by omega) (fun x hx => by simp at hx)
 unfold mewsref16.Meets
 rw [hloop]
 rfl

end Go.Pu

set_option maxHeartbeats 0
set_option maxRecDepth 100000
namespace Go.Pu
open Go.Lift

/-- What a name has. -/
def mm (l : List api.File) (k : List UInt8) : Option api.File := (look l k).map sfF
/-- Two disks are alike. -/
structure Rl (d r : api.Disk) : Prop where
 m : ∀ k, mm d.Files k = mm r.Files k
 t : d.Faults = r.Faults
/-- The sizes of a disk. -/
structure BD (n : Nat) (d : api.Disk) : Prop where
 f : d.Files.length ≤ n
 t : d.Faults.length ≤ n
 b : ∀ x, x ∈ d.Files → x.Data.length ≤ n
theorem BD.mono {a b : Nat} {d : api.Disk} (h : BD a d) (hab : a ≤ b) : BD b d := ⟨Nat.le_trans h.f hab, Nat.le_trans h.t hab, fun x hx => Nat.le_trans (h.b x hx) hab⟩
theorem BD.sz {a : Nat} {d : api.Disk} (h : BD a d) (hab : a ≤ 800000) : DSz d := ⟨by have := h.f; omega, by have := h.t; omega, fun x hx => by have := h.b x hx; omega⟩

theorem mm_iff {l : List api.File} {k : List UInt8} : (mm l k).isSome = (look l k).isSome := by unfold mm; cases look l k <;> rfl
theorem mm_set (f : api.File) (l : List api.File) (k : List UInt8) : mm (setF f (cnt l)) k = if k = f.Name then some (sfF f) else mm l k := by
 unfold mm
 rw [look_setF]
 split
 ·rfl
 ·rw [look_cnt]
  cases look l k with
  | none => rfl
  | some x => show some (sfF (sfF x)) = some (sfF x); rw [sfF_sfF]

theorem lookR_mm (l : List api.File) (k : List UInt8) : lookR l k = match mm l k with | some x => (x, true) | none => (⟨[], [], 0⟩, false) := by
 unfold lookR mm
 cases look l k <;> rfl
theorem mm_name {l : List api.File} {k : List UInt8} {x : api.File} (h : mm l k = some x) : x.Name = k ∧ sfF x = x ∧ ∃ y, y ∈ l ∧ x = sfF y := by
 unfold mm at h
 cases e : look l k with
 | none => rw [e] at h; cases h
 | some y =>
  rw [e] at h
  obtain rfl : sfF y = x := Option.some.inj h
  exact ⟨(look_some e).2, sfF_sfF y, y, (look_some e).1, rfl⟩

theorem modF_mem {g : api.File → api.File} {name : List UInt8} {x : api.File} : ∀ {l : List api.File}, x ∈ modF g name l → x ∈ l ∨ ∃ y, y ∈ l ∧ x = g y
 | [], h => by cases h
 | y :: l, h => by
  unfold modF at h
  split at h
  ·rcases List.mem_cons.1 h with h | h
   ·exact .inr ⟨y, List.mem_cons_self .., h⟩
   ·exact .inl (List.mem_cons_of_mem _ h)
  ·rcases List.mem_cons.1 h with h | h
   ·exact .inl (h ▸ List.mem_cons_self ..)
   ·rcases modF_mem h with h | ⟨z, hz, e⟩
    ·exact .inl (List.mem_cons_of_mem _ h)
    ·exact .inr ⟨z, List.mem_cons_of_mem _ hz, e⟩

theorem look_cnt_mm (l : List api.File) (k : List UInt8) : look (cnt l) k = mm l k := look_cnt l k

/-! ### Sync -/
theorem sfF_syF (x : api.File) : sfF (syF x) = syF (sfF x) := by
 unfold sfF syF
 have : clampN (x.Data.length : Int) x.Data.length = x.Data.length := by unfold clampN; omega
 show ({ Name := x.Name, Data := x.Data, Synced := (clampN (x.Data.length : Int) x.Data.length : Int) } : api.File) = _
 rw [this]

theorem mm_mod {g : api.File → api.File} (hg : ∀ x, (g x).Name = x.Name) (hs : ∀ x, sfF (g x) = g (sfF x)) (name : List UInt8) (l : List api.File) (k : List UInt8) : mm (modF g name l) k = if k = name then (mm l name).map g else mm l k := by
 unfold mm
 rw [look_modF g hg]
 split
 ·cases look l name with
  | none => rfl
  | some x => show some (sfF (g x)) = some (g (sfF x)); rw [hs]
 ·rfl

theorem BD.take {n : Nat} {d : api.Disk} (h : BD n d) (name : List UInt8) (kind : Int) : BD n { d with Faults := (takeF name kind d.Faults).2 } :=
 ⟨h.f, Nat.le_trans (takeF_len name kind d.Faults) h.t, h.b⟩

theorem BD.set {n : Nat} {r : api.Disk} (h : BD n r) {f : api.File} (hf : f.Data.length ≤ n) (fl : List api.Fault) (ht : fl.length ≤ n) : BD (n + 1) { Files := setF f (cnt r.Files), Faults := fl } := by
 have := setF_len f (cnt r.Files)
 have hcl := cnt_len r.Files
 have := h.f
 refine ⟨by show (setF _ _).length ≤ _; omega, by show fl.length ≤ _; omega, fun x hx => ?_⟩
 rcases setF_mem hx with rfl | hx
 ·omega
 ·obtain ⟨y, hy, rfl⟩ := cnt_mem hx
  have := h.b y hy
  show y.Data.length ≤ _
  omega

theorem BD.mod {n : Nat} {d : api.Disk} (h : BD n d) {g : api.File → api.File} (hg : ∀ x, (g x).Data.length ≤ x.Data.length) (name : List UInt8) (fl : List api.Fault) (ht : fl.length ≤ n) : BD (n + 1) { Files := modF g name d.Files, Faults := fl } := by
 have := h.f
 refine ⟨by show (modF _ _ _).length ≤ _; rw [modF_len]; omega, by show fl.length ≤ _; omega, fun x hx => ?_⟩
 rcases modF_mem hx with hx | ⟨y, hy, rfl⟩
 ·have := h.b x hx; omega
 ·have := h.b y hy
  have := hg y
  omega

theorem Sync_step {n : Nat} {d r : api.Disk} (h : Rl d r) (hd : BD n d) (hr : BD n r) (name : List UInt8) (hn : n + 1 ≤ 800000) :
  ∃ d' r' e, disk.Sync d name = some (d', e) ∧ mewsref16.Sync r name = some (r', e) ∧ Rl d' r' ∧ BD (n + 1) d' ∧ BD (n + 1) r' := by
 have hsz := hd.sz (by omega)
 have hrf := hr.f
 have hrt := hr.t
 rw [Sync_eq hsz]
 unfold mewsref16.Sync
 rw [RFind_eq (by omega), Option.bind_some, lookR_mm, ← mm_iff, h.m, Meets_eq (by omega)]
 cases e : mm r.Files name with
 | none => exact ⟨d, r, 8, rfl, rfl, h, hd.mono (by omega), hr.mono (by omega)⟩
 | some x =>
  obtain ⟨hx1, hx2, y, hy, rfl⟩ := mm_name e
  show ∃ d' r' e, (some (if (takeF name 2 d.Faults).1.isSome = true then _ else _) : Option (api.Disk × Int)) = some (d', e) ∧ (if (takeF name 2 r.Faults).1.isSome = true then some (_, (15 : Int)) else ((mewsref16.with_ { r with Faults := (takeF name 2 r.Faults).2 } (syF (sfF y))).bind fun r19 => some (r19, (0 : Int)))) = some (r', e) ∧ _
  rw [with_eq (by show r.Files.length < 1000000; omega), Option.bind_some, h.t]
  by_cases hi : (takeF name 2 r.Faults).1.isSome = true
  ·rw [if_pos hi, if_pos hi]
   refine ⟨_, _, _, rfl, rfl, ⟨h.m, rfl⟩, ?_, (hr.take name 2).mono (by omega)⟩
   have := hd.take name 2
   rw [h.t] at this
   exact this.mono (by omega)
  ·rw [if_neg hi, if_neg hi]
   have hfl := takeF_len name 2 r.Faults
   refine ⟨_, _, _, rfl, rfl, ⟨fun k => ?_, rfl⟩, hd.mod (g := syF) (fun x => Nat.le_refl _) name _ (by omega), hr.set (f := syF (sfF y)) (hr.b y hy) _ (by show (takeF name 2 r.Faults).2.length ≤ n; omega)⟩
   show mm (modF syF name d.Files) k = mm (setF (syF (sfF y)) (cnt r.Files)) k
   rw [mm_mod (g := syF) (fun _ => rfl) sfF_syF, mm_set, h.m, h.m, e, ← sfF_syF, sfF_sfF]
   show _ = if k = y.Name then _ else _
   rw [show y.Name = name from hx1]
   split
   ·show some (syF (sfF y)) = _
    rw [← sfF_syF]
   ·rfl

/-! ### Cut -/
theorem sfF_cuF (n : Int) (x : api.File) : sfF (cuF n x) = cuF n (sfF x) ∧ cuF n (sfF x) = cuF n x := by
 have e1 : (x.Data.take (clampN n x.Data.length)).length = clampN n x.Data.length := by
  have := clampN_le n x.Data.length
  rw [List.length_take]; omega
 have e2 : clampN (clampN x.Synced x.Data.length : Int) (clampN n x.Data.length) = clampN x.Synced (clampN n x.Data.length) := by unfold clampN; omega
 have e : cuF n (sfF x) = cuF n x := by
  show ({ Name := x.Name, Data := x.Data.take (clampN n x.Data.length), Synced := (clampN (clampN x.Synced x.Data.length : Int) (clampN n x.Data.length) : Int) } : api.File) = _
  rw [e2]
  rfl
 refine ⟨?_, e⟩
 rw [e]
 show ({ Name := x.Name, Data := x.Data.take (clampN n x.Data.length), Synced := (clampN (clampN x.Synced (clampN n x.Data.length) : Int) (x.Data.take (clampN n x.Data.length)).length : Int) } : api.File) = _
 rw [e1, clampN_self]
 rfl

theorem Cut_step {n : Nat} {d r : api.Disk} (h : Rl d r) (hd : BD n d) (hr : BD n r) (name : List UInt8) (m : Int) (hn : n + 1 ≤ 800000) :
  ∃ d' r' e, disk.Cut d name m = some (d', e) ∧ mewsref16.Cut r name m = some (r', e) ∧ Rl d' r' ∧ BD (n + 1) d' ∧ BD (n + 1) r' := by
 have hsz := hd.sz (by omega)
 have hrf := hr.f
 have hrt := hr.t
 have hdt := hd.t
 rw [Cut_eq hsz]
 unfold mewsref16.Cut
 rw [RFind_eq (by omega), Option.bind_some, lookR_mm, ← mm_iff, h.m]
 cases e : mm r.Files name with
 | none => exact ⟨d, r, 8, rfl, rfl, h, hd.mono (by omega), hr.mono (by omega)⟩
 | some x =>
  obtain ⟨hx1, hx2, y, hy, rfl⟩ := mm_name e
  have hc := clampN_le m y.Data.length
  have e1 : (y.Data.take (clampN m y.Data.length)).length = clampN m y.Data.length := by rw [List.length_take]; omega
  refine ⟨_, { r with Files := setF (cuF m (sfF y)) (cnt r.Files) }, 0, rfl, ?_, ⟨fun k => ?_, h.t⟩, hd.mod (g := cuF m) (fun x => ?_) name _ hdt, hr.set ?_ _ hrt⟩
  ·show ((mewsref16.between m (y.Data.length : Int)).bind _) = _
   rw [btw_eq, Option.bind_some]
   show need (InR 0 (clampN m y.Data.length : Int) y.Data.length) ((mewsref16.between (sfF y).Synced ((sub y.Data 0 (clampN m y.Data.length : Int)).length : Int)).bind _) = _
   rw [need_eq ⟨by omega, by omega, by omega⟩, sub0, e1, btw_eq, Option.bind_some]
   show ((mewsref16.with_ r ({ Name := y.Name, Data := y.Data.take (clampN m y.Data.length), Synced := (clampN (sfF y).Synced (clampN m y.Data.length) : Int) } : api.File)).bind _) = _
   rw [with_eq (by omega)]
   rfl
  ·show mm (modF (cuF m) name d.Files) k = mm (setF (cuF m (sfF y)) (cnt r.Files)) k
   rw [mm_mod (g := cuF m) (fun _ => rfl) (fun x => (sfF_cuF m x).1), mm_set, h.m, h.m, e, (sfF_cuF m (sfF y)).1, sfF_sfF]
   show _ = if k = y.Name then _ else _
   rw [show y.Name = name from hx1]
   rfl
  ·show (x.Data.take _).length ≤ _
   rw [List.length_take]; omega
  ·have := hr.b y hy
   show (y.Data.take _).length ≤ _
   rw [List.length_take]; omega

/-! ### Remove -/
theorem look_not (l : List api.File) (name k : List UInt8) : look (l.filter (notN name)) k = if k = name then none else look l k := by
 split
 ·rename_i hk
  refine look_none fun x hx e => ?_
  have := (List.mem_filter.1 hx).2
  unfold notN at this
  rw [isN_iff.2 (e.trans hk)] at this
  cases this
 ·rename_i hk
  refine look_filter l fun f hf => ?_
  unfold notN
  rw [isN_not.2 (fun e => hk (hf.symm.trans e))]
  rfl

theorem RRemove_eq {d : api.Disk} (hd : d.Files.length < 1000000) (name : List UInt8) : mewsref16.Remove d name = some { d with Files := (cnt d.Files).filter (notN name) } := by
 have hcl := cnt_len d.Files
 unfold mewsref16.Remove
 rw [Files_eq hd, Option.bind_some]
 generalize cnt d.Files = l at hcl
 have hloop : mewsref16.Remove.loop0 l name ⟨0, []⟩ = some (l.filter (notN name)) := by
  unfold mewsref16.Remove.loop0
  refine whileO_knownE ⟨0, []⟩ (fun i => (⟨(i : Int), (l.take i).filter (notN name)⟩ : mewsref16.Remove.S0)) l.length (fun i hi => ?_) ?_
  ·unfold mewsref16.Remove.body0
   have hfl := List.length_filter_le (notN name) (l.take i)
   rw [List.length_take] at hfl
   have hin : InB (i : Int) l.length := ⟨by omega, by omega⟩
   show (if (i : Int) < (l.length : Int) then _ else _) = _
   rw [if_pos (by omega)]
   show ((need (InB (i : Int) l.length) (if (ix l (i : Int)).Name = name then some ((l.take i).filter (notN name)) else need (InB (i : Int) l.length) (need ((((l.take i).filter (notN name)).length + 1) * 40 ≤ 140737488355328) (some ((l.take i).filter (notN name) ++ [ix l (i : Int)]))))).bind _) = _
   rw [need_eq hin, need_eq hin, need_eq (by omega)]
   have e : (if (ix l (i : Int)).Name = name then some ((l.take i).filter (notN name)) else some ((l.take i).filter (notN name) ++ [ix l (i : Int)])) = some ((l.take (i + 1)).filter (notN name)) := by
    rw [List.take_add_one, List.getElem?_eq_getElem hi, List.filter_append, ← ix_get hi]
    by_cases hx : (ix l (i : Int)).Name = name
    ·rw [if_pos hx]; simp [notN, isN, hx]
    ·rw [if_neg hx]; simp [notN, isN, hx]
   rw [e, Option.bind_some]
   show some (Sum.inl (⟨IntKind.wrap .i64 ((i : Int) + 1), _⟩ : mewsref16.Remove.S0)) = _
   rw [i64w (by omega) (by omega), show (i : Int) + 1 = ((i + 1 : Nat) : Int) by omega]
  ·unfold mewsref16.Remove.body0
   show (if (l.length : Int) < (l.length : Int) then _ else _) = _
   rw [if_neg (by omega), List.take_length]
 rw [hloop]
 rfl

theorem mm_not (l : List api.File) (name k : List UInt8) : mm (l.filter (notN name)) k = if k = name then none else mm l k := by
 unfold mm
 rw [look_not]
 split <;> rfl
theorem mm_notc (l : List api.File) (name k : List UInt8) : mm ((cnt l).filter (notN name)) k = if k = name then none else mm l k := by
 rw [mm_not]
 split
 ·rfl
 ·unfold mm
  rw [look_cnt]
  cases look l k with
  | none => rfl
  | some x => show some (sfF (sfF x)) = some (sfF x); rw [sfF_sfF]

theorem BD.sub {n : Nat} {d : api.Disk} (h : BD n d) {l : List api.File} (hl : l.length ≤ d.Files.length) (hm : ∀ x, x ∈ l → ∃ y, y ∈ d.Files ∧ x.Data.length ≤ y.Data.length) (fl : List api.Fault) (ht : fl.length ≤ n) : BD (n + 1) { Files := l, Faults := fl } := by
 have := h.f
 refine ⟨by show l.length ≤ _; omega, by show fl.length ≤ _; omega, fun x hx => ?_⟩
 obtain ⟨y, hy, e⟩ := hm x hx
 have := h.b y hy
 omega

theorem Remove_step {n : Nat} {d r : api.Disk} (h : Rl d r) (hd : BD n d) (hr : BD n r) (name : List UInt8) (hn : n + 1 ≤ 800000) :
  ∃ d' r', disk.Remove d name = some d' ∧ mewsref16.Remove r name = some r' ∧ Rl d' r' ∧ BD (n + 1) d' ∧ BD (n + 1) r' := by
 have hsz := hd.sz (by omega)
 have hrf := hr.f
 refine ⟨_, _, Remove_eq hsz name, RRemove_eq (by omega) name, ⟨fun k => ?_, h.t⟩, hd.sub (List.length_filter_le _ _) (fun x hx => ⟨x, (List.mem_filter.1 hx).1, Nat.le_refl _⟩) _ hd.t, hr.sub (Nat.le_trans (List.length_filter_le _ _) (cnt_len _)) (fun x hx => ?_) _ hr.t⟩
 ·show mm (d.Files.filter (notN name)) k = mm ((cnt r.Files).filter (notN name)) k
  rw [mm_not, mm_notc, h.m]
 ·obtain ⟨y, hy, rfl⟩ := cnt_mem (List.mem_filter.1 hx).1
  exact ⟨y, hy, Nat.le_refl _⟩

end Go.Pu

set_option maxHeartbeats 0
set_option maxRecDepth 100000
namespace Go.Pu
open Go.Lift

theorem cnt_mem_iff {l : List api.File} {x : api.File} : x ∈ cnt l ↔ mm l x.Name = some x := by
 constructor
 ·intro h
  have := look_nodup (cnt_nodup l) h
  rwa [look_cnt_mm] at this
 ·intro h
  rw [← look_cnt_mm] at h
  exact (look_some h).1

theorem cnt_nodup' (l : List api.File) : (cnt l).Nodup := by
 have := cnt_nodup l
 exact (List.pairwise_map.1 this).imp fun {a b} h e => h (congrArg _ e)

theorem cnt_perm {d r : api.Disk} (h : Rl d r) : (cnt d.Files).Perm (cnt r.Files) :=
 (List.perm_ext_iff_of_nodup (cnt_nodup' _) (cnt_nodup' _)).2 fun x => by rw [cnt_mem_iff, cnt_mem_iff, h.m]

theorem RSame_eq {n : Nat} {d r : api.Disk} (h : Rl d r) (hd : BD n d) (hr : BD n r) (hn : n ≤ 800000) : mewsref16.Same d r = some true := by
 have hdf := hd.f
 have hrf := hr.f
 have hdt := hd.t
 have hcd := cnt_len d.Files
 have hpl := (cnt_perm h).length_eq
 have l0 : mewsref16.Same.loop0 (cnt d.Files) r ⟨0⟩ = some (.inl ()) := by
  unfold mewsref16.Same.loop0
  refine whileO_knownE ⟨0⟩ (fun i => (⟨(i : Int)⟩ : mewsref16.Same.S0)) (cnt d.Files).length (fun i hi => ?_) ?_
  ·unfold mewsref16.Same.body0
   have hin : InB (i : Int) (cnt d.Files).length := ⟨by omega, by omega⟩
   show (if (i : Int) < ((cnt d.Files).length : Int) then _ else _) = _
   rw [if_pos (by omega)]
   have hx : mm r.Files (cnt d.Files)[i].Name = some (cnt d.Files)[i] := by rw [← h.m]; exact cnt_mem_iff.1 (List.getElem_mem hi)
   show need (InB (i : Int) (cnt d.Files).length) ((mewsref16.Find r (ix (cnt d.Files) (i : Int)).Name).bind _) = _
   rw [need_eq hin, RFind_eq (by omega), Option.bind_some, ix_get hi, lookR_mm, hx]
   show ((need (InB (i : Int) (cnt d.Files).length) (some (!decide ((cnt d.Files)[i] = (cnt d.Files)[i])))).bind _) = _
   rw [need_eq hin, decide_eq_true rfl, Option.bind_some]
   show some (Sum.inl (⟨IntKind.wrap .i64 ((i : Int) + 1)⟩ : mewsref16.Same.S0)) = _
   rw [i64w (by omega) (by omega), show (i : Int) + 1 = ((i + 1 : Nat) : Int) by omega]
  ·unfold mewsref16.Same.body0
   exact if_neg (by show ¬ ((cnt d.Files).length : Int) < ((cnt d.Files).length : Int); omega)
 have l2 : mewsref16.Same.loop2 d r ⟨0⟩ = some (.inl ()) := by
  unfold mewsref16.Same.loop2
  refine whileO_knownE ⟨0⟩ (fun i => (⟨(i : Int)⟩ : mewsref16.Same.S2)) d.Faults.length (fun i hi => ?_) ?_
  ·unfold mewsref16.Same.body2
   show (if (i : Int) < (d.Faults.length : Int) then _ else _) = _
   rw [if_pos (by omega)]
   show need (InB (i : Int) d.Faults.length) (need (InB (i : Int) r.Faults.length) (if (ix d.Faults (i : Int)) = (ix r.Faults (i : Int)) then _ else _)) = _
   rw [← h.t, need_eq ⟨by omega, by omega⟩, need_eq ⟨by omega, by omega⟩, if_pos rfl]
   show some (Sum.inl (⟨IntKind.wrap .i64 ((i : Int) + 1)⟩ : mewsref16.Same.S2)) = _
   rw [i64w (by omega) (by omega), show (i : Int) + 1 = ((i + 1 : Nat) : Int) by omega]
  ·unfold mewsref16.Same.body2
   exact if_neg (by show ¬ (d.Faults.length : Int) < (d.Faults.length : Int); omega)
 unfold mewsref16.Same
 rw [Files_eq (by omega), Option.bind_some, Files_eq (by omega), Option.bind_some, hpl, if_pos rfl, ← h.t, decide_eq_true rfl]
 show ((mewsref16.Same.loop0 (cnt d.Files) r ⟨0⟩).bind _) = _
 rw [l0, Option.bind_some]
 show ((mewsref16.Same.loop2 d r ⟨0⟩).bind _) = _
 rw [l2]
 rfl

end Go.Pu
