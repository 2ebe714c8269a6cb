import Derived.Test.YtlidepjlhmaldaaDPPuDisk5
set_option maxHeartbeats 0
set_option maxRecDepth 100000
namespace Go.Pu
open Go.Lift

/-- The files that count, as the document has them. -/
def cnt (l : List api.File) : List api.File := (fstA l).map sfF

theorem cnt_nodup (l : List api.File) : ((cnt l).map (·.Name)).Nodup := by
 unfold cnt
 rw [List.map_map]
 exact fstA_nodup l
theorem sfF_sfF (x : api.File) : sfF (sfF x) = sfF x := by
 unfold sfF
 rw [clampN_self]
theorem look_cnt (l : List api.File) (k : List UInt8) : look (cnt l) k = (look l k).map sfF := look_fstA l sfF (fun _ => rfl) k
theorem cnt_len (l : List api.File) : (cnt l).length ≤ l.length := by
 unfold cnt
 rw [List.length_map]
 exact fsts_len _ _
theorem cnt_mem {l : List api.File} {x : api.File} (h : x ∈ cnt l) : ∃ y, y ∈ l ∧ x = sfF y := by
 obtain ⟨y, hy, rfl⟩ := List.mem_map.1 h
 obtain ⟨i, hi, _, rfl⟩ := fstA_mem hy
 exact ⟨_, by rw [ix_get hi]; exact List.getElem_mem hi, rfl⟩
theorem cnt_of {l : List api.File} (hn : (l.map (·.Name)).Nodup) : cnt l = l.map sfF := by
 unfold cnt
 rw [fstA_self hn]

theorem between_eq (n : Int) (m : Nat) : mewsref16.between n (m : Int) = some (clampN n m : Int) := by
 unfold mewsref16.between clampN
 split
 ·congr 1; omega
 ·split
  ·congr 1; omega
  ·congr 1; omega

theorem isN_name {f : api.File} : isN f.Name f = true := isN_iff.2 rfl

/-- What the document finds. -/
def lookR (l : List api.File) (name : List UInt8) : api.File × Bool := match look l name with | some x => (sfF x, true) | none => (⟨[], [], 0⟩, false)

theorem RFind_eq {d : api.Disk} (h : d.Files.length < 1000000000) (name : List UInt8) : mewsref16.Find d name = some (lookR d.Files name) := by
 have hloop : mewsref16.Find.loop0 d name ⟨0⟩ = some (match idxF (isN name) d.Files 0 with | some i => (Sum.inr (sfF (ix d.Files (i : Int)), true) : Unit ⊕ (api.File × Bool)) | none => Sum.inl ()) := by
  unfold mewsref16.Find.loop0
  refine (whileO_idxE ⟨0⟩ (fun i => (⟨(i : Int)⟩ : mewsref16.Find.S0)) d.Files (isN name) (fun i => (Sum.inr (sfF (ix d.Files (i : Int)), true) : Unit ⊕ (api.File × Bool))) (Sum.inl ()) (fun i hi => ?_) ?_).trans ?_
  ·unfold mewsref16.Find.body0
   show (if (i : Int) < (d.Files.length : Int) then _ else _) = _
   rw [if_pos (by omega), need_eq ⟨by show (0 : Int) ≤ (i : Int); omega, by show (i : Int) < (d.Files.length : Int); omega⟩]
   show (if (ix d.Files (i : Int)).Name = name then _ else _) = _
   unfold isN
   rw [← ix_get hi]
   by_cases e : (ix d.Files (i : Int)).Name = name
   ·rw [if_pos e, decide_eq_true e, if_pos rfl]
    show ((mewsref16.between (ix d.Files (i : Int)).Synced ((ix d.Files (i : Int)).Data.length : Int)).bind _) = _
    rw [between_eq, Option.bind_some]
    rfl
   ·rw [if_neg e, decide_eq_false e, if_neg (by decide)]
    show some (Sum.inl (⟨IntKind.wrap .i64 ((i : Int) + 1)⟩ : mewsref16.Find.S0)) = _
    rw [i64w (by omega) (by omega), show (i : Int) + 1 = ((i + 1 : Nat) : Int) by omega]
  ·unfold mewsref16.Find.body0
   exact if_neg (by show ¬ (d.Files.length : Int) < (d.Files.length : Int); omega)
  ·cases idxF (isN name) d.Files 0 <;> rfl
 unfold mewsref16.Find
 rw [hloop]
 unfold lookR
 rcases idxF_cases (isN name) d.Files 0 with ⟨h1, h2⟩ | ⟨a, x, b, h1, h2, h3, h4⟩
 ·rw [h1, look_none fun x hx => isN_not.1 (h2 x hx)]
  rfl
 ·rw [h2, show ((0 + a.length : Nat)) = a.length by omega]
  have e1 : look d.Files name = some x := by rw [h1]; exact look_mid (isN_iff.1 h3) fun y hy => isN_not.1 (h4 y hy)
  have e2 : ix d.Files (a.length : Int) = x := by rw [h1]; exact ix_mid rfl
  rw [e1]
  show some (sfF (ix d.Files (a.length : Int)), true) = _
  rw [e2]

theorem fx_first {l : List api.File} {i : Nat} (hi : i < l.length) : (fx l (ix l (i : Int)).Name = (i : Int)) ↔ (l.take i).any (isN (ix l (i : Int)).Name) = false := by
 rw [ix_get hi]
 constructor
 ·intro h
  rcases fx_cases l l[i].Name with ⟨h1, _⟩ | ⟨a, x, b, h1, h2, h3, h4⟩
  ·omega
  ·have : a.length = i := by omega
   rw [Bool.eq_false_iff]
   intro hany
   obtain ⟨y, hy, hy2⟩ := List.any_eq_true.1 hany
   rw [h1, ← this, List.take_left] at hy
   refine h4 y hy ?_
   have := isN_iff.1 hy2
   simpa [h1] using this
 ·intro h
  rcases fx_cases l l[i].Name with ⟨_, h2⟩ | ⟨a, x, b, h1, h2, h3, h4⟩
  ·exact absurd rfl (h2 _ (List.getElem_mem hi))
  ·rw [h2]
   rcases Nat.lt_trichotomy a.length i with hlt | he | hgt
   ·exfalso
    have hx : x ∈ l.take i := by
     have : (l.take i)[a.length]? = some x := by rw [List.getElem?_take_of_lt hlt, h1]; simp
     exact List.mem_of_getElem? this
    have := List.any_eq_false.1 h x hx
    exact this (isN_iff.2 h3)
   ·omega
   ·exfalso
    have : l[i] = a[i]'hgt := by
     have : l[i]? = some (a[i]'hgt) := by rw [h1, List.getElem?_append_left hgt, List.getElem?_eq_getElem hgt]
     rw [List.getElem?_eq_getElem hi] at this
     exact Option.some.inj this
    refine h4 _ (List.getElem_mem hgt) ?_
    rw [← this]

theorem Files_eq {d : api.Disk} (hd : d.Files.length < 1000000) : mewsref16.Files d = some (cnt d.Files) := by
 have hloop : mewsref16.Files.loop0 d ⟨[], 0⟩ = some ((fstA d.Files).map sfF) := by
  unfold mewsref16.Files.loop0
  refine whileO_knownE ⟨[], 0⟩ (fun i => (⟨(fsts d.Files i).map sfF, (i : Int)⟩ : mewsref16.Files.S0)) d.Files.length (fun i hi => ?_) ?_
  ·unfold mewsref16.Files.body0
   show (if (i : Int) < (d.Files.length : Int) then _ else _) = _
   rw [if_pos (by omega)]
   have hin : InB (i : Int) d.Files.length := ⟨by omega, by omega⟩
   have h2 : mewsref16.Files.loop2 ⟨(fsts d.Files i).map sfF, (i : Int)⟩ d ⟨false, 0⟩ = some ((d.Files.take i).any (isN (ix d.Files (i : Int)).Name)) := by
    unfold mewsref16.Files.loop2
    refine whileO_knownE ⟨false, 0⟩ (fun k => (⟨(d.Files.take k).any (isN (ix d.Files (i : Int)).Name), (k : Int)⟩ : mewsref16.Files.S2)) i (fun k hk => ?_) ?_
    ·unfold mewsref16.Files.body2
     show (if (k : Int) < (i : Int) then _ else _) = _
     rw [if_pos (by omega)]
     show ((if ((d.Files.take k).any (isN (ix d.Files (i : Int)).Name)) = true then some true else need (InB (k : Int) d.Files.length) (need (InB (i : Int) d.Files.length) (some (decide ((ix d.Files (k : Int)).Name = (ix d.Files (i : Int)).Name))))).bind _) = _
     rw [need_eq ⟨by omega, by omega⟩, need_eq hin]
     have e : (if ((d.Files.take k).any (isN (ix d.Files (i : Int)).Name)) = true then some true else some (decide ((ix d.Files (k : Int)).Name = (ix d.Files (i : Int)).Name))) = some ((d.Files.take (k + 1)).any (isN (ix d.Files (i : Int)).Name)) := by
      have hk2 : k < d.Files.length := by omega
      rw [List.take_add_one, List.getElem?_eq_getElem hk2, List.any_append, ← ix_get hk2]
      cases (d.Files.take k).any (isN (ix d.Files (i : Int)).Name)
      ·rw [if_neg (by decide)]; simp [isN]
      ·rw [if_pos rfl]; rfl
     rw [e, Option.bind_some]
     show some (Sum.inl (⟨_, IntKind.wrap .i64 ((k : Int) + 1)⟩ : mewsref16.Files.S2)) = _
     rw [i64w (by omega) (by omega), show (k : Int) + 1 = ((k + 1 : Nat) : Int) by omega]
    ·unfold mewsref16.Files.body2
     exact if_neg (by show ¬ (i : Int) < (i : Int); omega)
   rw [h2]
   have hw : IntKind.wrap .i64 ((i : Int) + 1) = ((i + 1 : Nat) : Int) := by rw [i64w (by omega) (by omega)]; omega
   have hlen := fsts_len d.Files i
   show _ = some (Sum.inl (⟨(fsts d.Files (i + 1)).map sfF, ((i + 1 : Nat) : Int)⟩ : mewsref16.Files.S0))
   rw [fsts_succ]
   have hff := fx_first hi
   by_cases hany : (d.Files.take i).any (isN (ix d.Files (i : Int)).Name) = true
   ·have hne : ¬ fx d.Files (ix d.Files (i : Int)).Name = (i : Int) := fun e => by rw [hff.1 e] at hany; cases hany
    rw [hany, if_neg hne, List.append_nil]
    show some (Sum.inl (⟨_, IntKind.wrap .i64 ((i : Int) + 1)⟩ : mewsref16.Files.S0)) = _
    rw [hw]
   ·have hany' : (d.Files.take i).any (isN (ix d.Files (i : Int)).Name) = false := by simpa using hany
    have hfx := hff.2 hany'
    rw [hany', if_pos hfx]
    show ((need (InB (i : Int) d.Files.length) ((mewsref16.Find d (ix d.Files (i : Int)).Name).bind _)).bind _) = _
    rw [need_eq hin, RFind_eq (by omega), Option.bind_some]
    have hl : lookR d.Files (ix d.Files (i : Int)).Name = (sfF (ix d.Files (i : Int)), true) := by
     rcases fx_cases d.Files (ix d.Files (i : Int)).Name with ⟨h1, _⟩ | ⟨a, x, b, h1, h2, h3, h4⟩
     ·omega
     ·have hi2 : (i : Int) = (a.length : Int) := by omega
      have hx : ix d.Files (i : Int) = x := by rw [h1]; exact ix_mid hi2
      unfold lookR
      rw [show look d.Files (ix d.Files (i : Int)).Name = some x by
       conv => lhs; arg 1; rw [h1]
       exact look_mid h3 h4, hx]
    rw [hl]
    show ((need ((((fsts d.Files i).map sfF).length + 1) * 40 ≤ 140737488355328) (some ((fsts d.Files i).map sfF ++ [sfF (ix d.Files (i : Int))]))).bind _) = _
    rw [need_eq (by rw [List.length_map]; omega), Option.bind_some]
    show some (Sum.inl (⟨_, IntKind.wrap .i64 ((i : Int) + 1)⟩ : mewsref16.Files.S0)) = _
    rw [hw, List.map_append]
    rfl
  ·unfold mewsref16.Files.body0
   exact if_neg (by show ¬ (d.Files.length : Int) < (d.Files.length : Int); omega)
 unfold mewsref16.Files
 rw [hloop]
 rfl

/-- A file in the place of that of its name. -/
def repF (f x : api.File) : api.File := if x.Name = f.Name then f else x
def setF (f : api.File) (l : List api.File) : List api.File := if l.any (isN f.Name) then l.map (repF f) else l.map (repF f) ++ [f]

theorem repF_name (f x : api.File) : (repF f x).Name = x.Name := by
 unfold repF
 split
 ·rename_i h; exact h.symm
 ·rfl

theorem look_map {g : api.File → api.File} (hg : ∀ x, (g x).Name = x.Name) (k : List UInt8) : ∀ l : List api.File, look (l.map g) k = (look l k).map g
 | [] => rfl
 | x :: l => by
  unfold look
  rw [List.map_cons, List.find?_cons, List.find?_cons]
  have : isN k (g x) = isN k x := by unfold isN; rw [hg]
  rw [this]
  cases isN k x with
  | true => rfl
  | false => exact look_map hg k l

theorem look_any {l : List api.File} {k : List UInt8} : l.any (isN k) = (look l k).isSome := by
 unfold look
 cases h : l.find? (isN k) with
 | none =>
  rw [Option.isSome_none, List.any_eq_false]
  exact fun x hx => List.find?_eq_none.1 h x hx
 | some x =>
  rw [Option.isSome_some, List.any_eq_true]
  exact ⟨x, List.mem_of_find?_eq_some h, List.find?_some h⟩

theorem look_setF (f : api.File) (l : List api.File) (k : List UInt8) : look (setF f l) k = if k = f.Name then some f else look l k := by
 have hne : k ≠ f.Name → (look l k).map (repF f) = look l k := fun h => by
  cases e : look l k with
  | none => rfl
  | some x =>
   show some (repF f x) = some x
   unfold repF
   rw [if_neg]
   rw [(look_some e).2]
   exact h
 unfold setF
 rw [look_any]
 cases e : look l f.Name with
 | some x =>
  rw [if_pos (show (some x).isSome = true from rfl), look_map (repF_name f)]
  by_cases hk : k = f.Name
  ·subst hk
   rw [if_pos rfl, e]
   show some (repF f x) = some f
   unfold repF
   rw [if_pos (look_some e).2]
  ·rw [if_neg hk, hne hk]
 | none =>
  rw [if_neg (by simp), look_append, look_map (repF_name f)]
  by_cases hk : k = f.Name
  ·subst hk
   rw [if_pos rfl, e]
   show look [f] f.Name = some f
   exact look_mid (a := []) rfl (by simp)
  ·rw [if_neg hk, hne hk]
   have : look [f] k = none := look_none fun x hx => by
    obtain rfl : x = f := by simpa using hx
    exact fun e => hk e.symm
   rw [this]
   cases look l k <;> rfl

theorem setF_len (f : api.File) (l : List api.File) : (setF f l).length ≤ l.length + 1 := by
 unfold setF
 split
 ·rw [List.length_map]; omega
 ·rw [List.length_append, List.length_map]; simp

theorem setF_mem {f : api.File} {l : List api.File} {x : api.File} (h : x ∈ setF f l) : x = f ∨ x ∈ l := by
 have hm : ∀ x, x ∈ l.map (repF f) → x = f ∨ x ∈ l := fun x hx => by
  obtain ⟨y, hy, rfl⟩ := List.mem_map.1 hx
  unfold repF
  split
  ·exact .inl rfl
  ·exact .inr hy
 unfold setF at h
 split at h
 ·exact hm x h
 ·rcases List.mem_append.1 h with h | h
  ·exact hm x h
  ·exact .inl (by simpa using h)

theorem with_eq {d : api.Disk} (hd : d.Files.length < 1000000) (f : api.File) : mewsref16.with_ d f = some { d with Files := setF f (cnt d.Files) } := by
 have hcl := cnt_len d.Files
 unfold mewsref16.with_
 rw [Files_eq hd, Option.bind_some]
 generalize cnt d.Files = l at hcl
 have hloop : mewsref16.with_.loop0 l f ⟨false, 0, []⟩ = some (l.any (isN f.Name), l.map (repF f)) := by
  unfold mewsref16.with_.loop0
  refine whileO_knownE ⟨false, 0, []⟩ (fun i => (⟨(l.take i).any (isN f.Name), (i : Int), (l.take i).map (repF f)⟩ : mewsref16.with_.S0)) l.length (fun i hi => ?_) ?_
  ·unfold mewsref16.with_.body0
   show (if (i : Int) < (l.length : Int) then _ else _) = _
   rw [if_pos (by omega)]
   have hin : InB (i : Int) l.length := ⟨by omega, by omega⟩
   have hw : IntKind.wrap .i64 ((i : Int) + 1) = ((i + 1 : Nat) : Int) := by rw [i64w (by omega) (by omega)]; omega
   show ((need (InB (i : Int) l.length) (if (ix l (i : Int)).Name = f.Name then need ((((l.take i).map (repF f)).length + 1) * 40 ≤ 140737488355328) (some (true, (l.take i).map (repF f) ++ [f])) else need (InB (i : Int) l.length) (need ((((l.take i).map (repF f)).length + 1) * 40 ≤ 140737488355328) (some ((l.take i).any (isN f.Name), (l.take i).map (repF f) ++ [ix l (i : Int)]))))).bind _) = _
   rw [need_eq hin, need_eq hin, need_eq (by rw [List.length_map, List.length_take]; omega), need_eq (by rw [List.length_map, List.length_take]; omega)]
   have e : (if (ix l (i : Int)).Name = f.Name then some (true, (l.take i).map (repF f) ++ [f]) else some ((l.take i).any (isN f.Name), (l.take i).map (repF f) ++ [ix l (i : Int)])) = some ((l.take (i + 1)).any (isN f.Name), (l.take (i + 1)).map (repF f)) := by
    rw [List.take_add_one, List.getElem?_eq_getElem hi, List.any_append, List.map_append, ← ix_get hi]
    by_cases h : (ix l (i : Int)).Name = f.Name
    ·rw [if_pos h]
     simp [isN, repF, h]
    ·rw [if_neg h]
     simp [isN, repF, h]
   rw [e, Option.bind_some]
   show some (Sum.inl (⟨_, IntKind.wrap .i64 ((i : Int) + 1), _⟩ : mewsref16.with_.S0)) = _
   rw [hw]
  ·unfold mewsref16.with_.body0
   show (if (l.length : Int) < (l.length : Int) then _ else _) = _
   rw [if_neg (by omega), List.take_length]
 rw [hloop, Option.bind_some]
 unfold setF
 show ((if (!l.any (isN f.Name)) = true then need (((l.map (repF f)).length + 1) * 40 ≤ 140737488355328) (some (l.map (repF f) ++ [f])) else some (l.map (repF f))).bind _) = _
 rw [need_eq (by rw [List.length_map]; omega)]
 cases l.any (isN f.Name) <;> rfl

theorem Meets_eq {d : api.Disk} (hd : d.Faults.length < 1000000) (name : List UInt8) (kind : Int) : mewsref16.Meets d name kind = some ({ d with Faults := (takeF name kind d.Faults).2 }, (takeF name kind d.Faults).1.getD ⟨[], 0, 0⟩, (takeF name kind d.Faults).1.isSome) := by
 have hloop : mewsref16.Meets.loop0 d name kind ⟨false, 0, [], [], 0, 0⟩ = some ((takeF name kind d.Faults).1.isSome, (takeF name kind d.Faults).2, ((takeF name kind d.Faults).1.getD ⟨[], 0, 0⟩).Name, ((takeF name kind d.Faults).1.getD ⟨[], 0, 0⟩).Kind, ((takeF name kind d.Faults).1.getD ⟨[], 0, 0⟩).Short) := by
  generalize hl : d.Faults = l
  have hd' : l.length < 1000000 := by rw [← hl]; exact hd
  -- behind the first that is met
  have hrest : ∀ (m i : Nat) (c : List api.Fault) (f : api.Fault), i + m = l.length → c.length ≤ i → mewsref16.Meets.loop0 d name kind ⟨true, (i : Int), c, f.Name, f.Kind, f.Short⟩ = some (true, c ++ l.drop i, f.Name, f.Kind, f.Short) := by
   intro m
   induction m with
   | zero =>
    intro i c f hi hc
    unfold mewsref16.Meets.loop0
    refine whileO_end ?_
    unfold mewsref16.Meets.body0
    show (if (i : Int) < (d.Faults.length : Int) then _ else _) = _
    rw [if_neg (by rw [hl]; omega), List.drop_of_length_le (by omega), List.append_nil]
   | succ m ih =>
    intro i c f hi hc
    have hin : i < l.length := by omega
    have hw : IntKind.wrap .i64 ((i : Int) + 1) = ((i + 1 : Nat) : Int) := by rw [i64w (by omega) (by omega)]; omega
    unfold mewsref16.Meets.loop0
    rw [whileO_stp (s' := ⟨true, ((i + 1 : Nat) : Int), c ++ [l[i]], f.Name, f.Kind, f.Short⟩)]
    ·refine (ih (i + 1) (c ++ [l[i]]) f (by omega) (by simp; omega)).trans ?_
     rw [List.append_assoc, List.drop_eq_getElem_cons hin]
     rfl
    ·unfold mewsref16.Meets.body0
     rw [hl]
     show (if (i : Int) < (l.length : Int) then _ else _) = _
     rw [if_pos (by omega)]
     show ((need (InB (i : Int) l.length) (need ((c.length + 1) * 32 ≤ 140737488355328) (some (true, c ++ [ix l (i : Int)], f.Name, f.Kind, f.Short)))).bind _) = _
     rw [need_eq ⟨by omega, by omega⟩, need_eq (by omega), Option.bind_some, ix_get hin]
     show some (Sum.inl (⟨_, IntKind.wrap .i64 ((i : Int) + 1), _, _, _, _⟩ : mewsref16.Meets.S0)) = _
     rw [hw]
  have hgo : ∀ (m i : Nat), i + m = l.length → (∀ x, x ∈ l.take i → isF name kind x = false) → mewsref16.Meets.loop0 d name kind ⟨false, (i : Int), l.take i, [], 0, 0⟩ = some ((takeF name kind l).1.isSome, (takeF name kind l).2, ((takeF name kind l).1.getD ⟨[], 0, 0⟩).Name, ((takeF name kind l).1.getD ⟨[], 0, 0⟩).Kind, ((takeF name kind l).1.getD ⟨[], 0, 0⟩).Short) := by
   intro m
   induction m with
   | zero =>
    intro i hi hno
    rw [List.take_of_length_le (by omega)] at hno ⊢
    rw [takeF_none hno]
    unfold mewsref16.Meets.loop0
    refine whileO_end ?_
    unfold mewsref16.Meets.body0
    show (if (i : Int) < (d.Faults.length : Int) then _ else _) = _
    rw [if_neg (by rw [hl]; omega)]
    rfl
   | succ m ih =>
    intro i hi hno
    have hin : i < l.length := by omega
    have hw : IntKind.wrap .i64 ((i : Int) + 1) = ((i + 1 : Nat) : Int) := by rw [i64w (by omega) (by omega)]; omega
    have htl : (l.take i).length = i := by rw [List.length_take]; omega
    have hbody : mewsref16.Meets.body0 d name kind ⟨false, (i : Int), l.take i, [], 0, 0⟩ = if isF name kind l[i] = true then some (.inl ⟨true, ((i + 1 : Nat) : Int), l.take i, l[i].Name, l[i].Kind, l[i].Short⟩) else some (.inl ⟨false, ((i + 1 : Nat) : Int), l.take i ++ [l[i]], [], 0, 0⟩) := by
     unfold mewsref16.Meets.body0
     rw [hl]
     show (if (i : Int) < (l.length : Int) then _ else _) = _
     rw [if_pos (by omega)]
     show ((need (InB (i : Int) l.length) (letO (if (ix l (i : Int)).Name = name then decide ((ix l (i : Int)).Kind = kind) else false) _)).bind _) = _
     rw [need_eq ⟨by omega, by omega⟩, ix_get hin]
     have e : (if l[i].Name = name then decide (l[i].Kind = kind) else false) = isF name kind l[i] := by
      unfold isF
      by_cases h : l[i].Name = name
      ·rw [if_pos h]; simp [h]
      ·rw [if_neg h]; simp [h]
     rw [e]
     unfold letO
     cases isF name kind l[i] with
     | true =>
      show some (Sum.inl (⟨true, IntKind.wrap .i64 ((i : Int) + 1), _, _, _, _⟩ : mewsref16.Meets.S0)) = _
      rw [hw]
      rfl
     | false =>
      show ((need (((l.take i).length + 1) * 32 ≤ 140737488355328) (some (false, l.take i ++ [l[i]], ([] : List UInt8), (0 : Int), (0 : Int)))).bind _) = _
      rw [need_eq (by omega), Option.bind_some]
      show some (Sum.inl (⟨false, IntKind.wrap .i64 ((i : Int) + 1), _, _, _, _⟩ : mewsref16.Meets.S0)) = _
      rw [hw]
      rfl
    unfold mewsref16.Meets.loop0
    cases hf : isF name kind l[i] with
    | true =>
     rw [hf, if_pos rfl] at hbody
     rw [whileO_stp hbody]
     refine (hrest m (i + 1) (l.take i) l[i] (by omega) (by omega)).trans ?_
     have hsplit : l = l.take i ++ l[i] :: l.drop (i + 1) := by
      rw [← List.drop_eq_getElem_cons hin, List.take_append_drop]
     have := takeF_mid (a := l.take i) (b := l.drop (i + 1)) hf hno
     rw [← hsplit] at this
     rw [this]
     rfl
    | false =>
     rw [hf, if_neg (by decide)] at hbody
     rw [whileO_stp hbody]
     have e : l.take i ++ [l[i]] = l.take (i + 1) := by rw [List.take_add_one, List.getElem?_eq_getElem hin]; rfl
     rw [e]
     refine ih (i + 1) (by omega) fun x hx => ?_
     rw [← e] at hx
     rcases List.mem_append.1 hx with hx | hx
     ·exact hno x hx
     ·obtain rfl : x = l[i] := by simpa using hx
      exact hf
  exact hgo l.length 0 (by omega) (fun x hx => by simp at hx)
 unfold mewsref16.Meets
 rw [hloop]
 rfl

end Go.Pu
