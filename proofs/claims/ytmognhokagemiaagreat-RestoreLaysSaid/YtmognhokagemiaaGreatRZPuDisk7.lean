import Derived.Test.YtmognhokagemiaaGreatRZPuDisk5A
import Derived.Test.YtmognhokagemiaaGreatRZPuDisk2
set_option maxHeartbeats 0
set_option maxRecDepth 100000
namespace Go.Pu
open Go.Lift

/-- The files that count, as the document has them. -/
def cnt (l : List api.File) : List api.File := (fstA l).map sfF

theorem cnt_nodup (l : List api.File) : ((cnt l).map (·.Name)).Nodup := by
 unfold cnt
 rw [List.map_map]
 exact fstA_nodup l
theorem sfF_sfF (x : api.File) : sfF (sfF x) = sfF x := by
 unfold sfF
 rw [clampN_self]
theorem look_cnt (l : List api.File) (k : List UInt8) : look (cnt l) k = (look l k).map sfF := look_fstA l sfF (fun _ => rfl) k
theorem cnt_len (l : List api.File) : (cnt l).length ≤ l.length := by
 unfold cnt
 rw [List.length_map]
 exact fsts_len _ _
theorem cnt_mem {l : List api.File} {x : api.File} (h : x ∈ cnt l) : ∃ y, y ∈ l ∧ x = sfF y := by
 obtain ⟨y, hy, rfl⟩ := List.mem_map.1 h
 obtain ⟨i, hi, _, rfl⟩ := fstA_mem hy
 exact ⟨_, by rw [ix_get hi]; exact List.getElem_mem hi, rfl⟩
theorem btw_eq (n : Int) (m : Nat) : mewsref16.between n (m : Int) = some (clampN n m : Int) := by
 unfold mewsref16.between clampN
 split
 ·congr 1; omega
 ·split
  ·congr 1; omega
  ·congr 1; omega

/-- What the document finds. -/
def lookR (l : List api.File) (name : List UInt8) : api.File × Bool := match look l name with | some x => (sfF x, true) | none => (⟨[], [], 0⟩, false)

theorem RFind_eq {d : api.Disk} (h : d.Files.length < 1000000000) (name : List UInt8) : mewsref16.Find d name = some (lookR d.Files name) := by
 have hloop : mewsref16.Find.loop0 d name ⟨0⟩ = some (match idxF (isN name) d.Files 0 with | some i => (Sum.inr (sfF (ix d.Files (i : Int)), true) : Unit ⊕ (api.File × Bool)) | none => Sum.inl ()) := by
  unfold mewsref16.Find.loop0
  refine (whileO_idxE ⟨0⟩ (fun i => (⟨(i : Int)⟩ : mewsref16.Find.S0)) d.Files (isN name) (fun i => (Sum.inr (sfF (ix d.Files (i : Int)), true) : Unit ⊕ (api.File × Bool))) (Sum.inl ()) (fun i hi => ?_) ?_).trans ?_
  ·unfold mewsref16.Find.body0
   show (if (i : Int) < (d.Files.length : Int) then _ else _) = _
   rw [if_pos (by omega), need_eq ⟨by show (0 : Int) ≤ (i : Int); omega, by show (i : Int) < (d.Files.length : Int); omega⟩]
   show (if (ix d.Files (i : Int)).Name = name then _ else _) = _
   unfold isN
   rw [← ix_get hi]
   by_cases e : (ix d.Files (i : Int)).Name = name
   ·rw [if_pos e, decide_eq_true e, if_pos rfl]
    show ((mewsref16.between (ix d.Files (i : Int)).Synced ((ix d.Files (i : Int)).Data.length : Int)).bind _) = _
    rw [btw_eq, Option.bind_some]
    rfl
   ·rw [if_neg e, decide_eq_false e, if_neg (by decide)]
    show some (Sum.inl (⟨IntKind.wrap .i64 ((i : Int) + 1)⟩ : mewsref16.Find.S0)) = _
    rw [i64w (by omega) (by omega), show (i : Int) + 1 = ((i + 1 : Nat) : Int) by omega]
  ·unfold mewsref16.Find.body0
   exact if_neg (by show ¬ (d.Files.length : Int) < (d.Files.length : Int); omega)
  ·cases idxF (isN name) d.Files 0 <;> rfl
 unfold mewsref16.Find
 rw [hloop]
 unfold lookR
 rcases idxF_cases (isN name) d.Files 0 with ⟨h1, h2⟩ | ⟨a, x, b, h1, h2, h3, h4⟩
 ·rw [h1, look_none fun x hx => isN_not.1 (h2 x hx)]
  rfl
 ·rw [h2, show ((0 + a.length : Nat)) = a.length by omega]
  have e1 : look d.Files name = some x := by rw [h1]; exact look_mid (isN_iff.1 h3) fun y hy => isN_not.1 (h4 y hy)
  have e2 : ix d.Files (a.length : Int) = x := by rw [h1]; exact ix_mid rfl
  rw [e1]
  show some (sfF (ix d.Files (a.length : Int)), true) = _
  rw [e2]

theorem fx_first {l : List api.File} {i : Nat} (hi : i < l.length) : (fx l (ix l (i : Int)).Name = (i : Int)) ↔ (l.take i).any (isN (ix l (i : Int)).Name) = false := by
 rw [ix_get hi]
 constructor
 ·intro h
  rcases fx_cases l l[i].Name with ⟨h1, _⟩ | ⟨a, x, b, h1, h2, h3, h4⟩
  ·omega
  ·have : a.length = i := by omega
   rw [Bool.eq_false_iff]
   intro hany
   obtain ⟨y, hy, hy2⟩ := List.any_eq_true.1 hany
   rw [h1, ← this, List.take_left] at hy
   refine h4 y hy ?_
   have := isN_iff.1 hy2
   simpa [h1] using this
 ·intro h
  rcases fx_cases l l[i].Name with ⟨_, h2⟩ | ⟨a, x, b, h1, h2, h3, h4⟩
  ·exact absurd rfl (h2 _ (List.getElem_mem hi))
  ·rw [h2]
   rcases Nat.lt_trichotomy a.length i with hlt | he | hgt
   ·exfalso
    have hx : x ∈ l.take i := by
     have : (l.take i)[a.length]? = some x := by rw [List.getElem?_take_of_lt hlt, h1]; simp
     exact List.mem_of_getElem? this
    have := List.any_eq_false.1 h x hx
    exact this (isN_iff.2 h3)
   ·omega
   ·exfalso
    have : l[i] = a[i]'hgt := by
     have : l[i]? = some (a[i]'hgt) := by rw [h1, List.getElem?_append_left hgt, List.getElem?_eq_getElem hgt]
     rw [List.getElem?_eq_getElem hi] at this
     exact Option.some.inj this
    refine h4 _ (List.getElem_mem hgt) ?_
    rw [← this]

theorem Files_eq {d : api.Disk} (hd : d.Files.length < 1000000) : mewsref16.Files d = some (cnt d.Files) := by
 have hloop : mewsref16.Files.loop0 d ⟨[], 0⟩ = some ((fstA d.Files).map sfF) := by
  unfold mewsref16.Files.loop0
  refine whileO_knownE ⟨[], 0⟩ (fun i => (⟨(fsts d.Files i).map sfF, (i : Int)⟩ : mewsref16.Files.S0)) d.Files.length (fun i hi => ?_) ?_
  ·unfold mewsref16.Files.body0
   show (if (i : Int) < (d.Files.length : Int) then _ else _) = _
   rw [if_pos (by omega)]
   have hin : InB (i : Int) d.Files.length := ⟨by omega, by omega⟩
   have h2 : mewsref16.Files.loop2 ⟨(fsts d.Files i).map sfF, (i : Int)⟩ d ⟨false, 0⟩ = some ((d.Files.take i).any (isN (ix d.Files (i : Int)).Name)) := by
    unfold mewsref16.Files.loop2
    refine whileO_knownE ⟨false, 0⟩ (fun k => (⟨(d.Files.take k).any (isN (ix d.Files (i : Int)).Name), (k : Int)⟩ : mewsref16.Files.S2)) i (fun k hk => ?_) ?_
    ·unfold mewsref16.Files.body2
     show (if (k : Int) < (i : Int) then _ else _) = _
     rw [if_pos (by omega)]
     show ((if ((d.Files.take k).any (isN (ix d.Files (i : Int)).Name)) = true then some true else need (InB (k : Int) d.Files.length) (need (InB (i : Int) d.Files.length) (some (decide ((ix d.Files (k : Int)).Name = (ix d.Files (i : Int)).Name))))).bind _) = _
     rw [need_eq ⟨by omega, by omega⟩, need_eq hin]
     have e : (if ((d.Files.take k).any (isN (ix d.Files (i : Int)).Name)) = true then some true else some (decide ((ix d.Files (k : Int)).Name = (ix d.Files (i : Int)).Name))) = some ((d.Files.take (k + 1)).any (isN (ix d.Files (i : Int)).Name)) := by
      have hk2 : k < d.Files.length := by omega
      rw [List.take_add_one, List.getElem?_eq_getElem hk2, List.any_append, ← ix_get hk2]
      cases (d.Files.take k).any (isN (ix d.Files (i : Int)).Name)
      ·rw [if_neg (by decide)]; simp [isN]
      ·rw [if_pos rfl]; rfl
     rw [e, Option.bind_some]
     show some (Sum.inl (⟨_, IntKind.wrap .i64 ((k : Int) + 1)⟩ : mewsref16.Files.S2)) = _
     rw [i64w (by omega) (by omega), show (k : Int) + 1 = ((k + 1 : Nat) : Int) by omega]
    ·unfold mewsref16.Files.body2
     exact if_neg (by show ¬ (i : Int) < (i : Int); omega)
   rw [h2]
   have hw : IntKind.wrap .i64 ((i : Int) + 1) = ((i + 1 : Nat) : Int) := by rw [i64w (by omega) (by omega)]; omega
   have hlen := fsts_len d.Files i
   show _ = some (Sum.inl (⟨(fsts d.Files (i + 1)).map sfF, ((i + 1 : Nat) : Int)⟩ : mewsref16.Files.S0))
   rw [fsts_succ]
   have hff := fx_first hi
   by_cases hany : (d.Files.take i).any (isN (ix d.Files (i : Int)).Name) = true
   ·have hne : ¬ fx d.Files (ix d.Files (i : Int)).Name = (i : Int) := fun e => by rw [hff.1 e] at hany; cases hany
    rw [hany, if_neg hne, List.append_nil]
    show some (Sum.inl (⟨_, IntKind.wrap .i64 ((i : Int) + 1)⟩ : mewsref16.Files.S0)) = _
    rw [hw]
   ·have hany' : (d.Files.take i).any (isN (ix d.Files (i : Int)).Name) = false := by simpa using hany
    have hfx := hff.2 hany'
    rw [hany', if_pos hfx]
    show ((need (InB (i : Int) d.Files.length) ((mewsref16.Find d (ix d.Files (i : Int)).Name).bind _)).bind _) = _
    rw [need_eq hin, RFind_eq (by omega), Option.bind_some]
    have hl : lookR d.Files (ix d.Files (i : Int)).Name = (sfF (ix d.Files (i : Int)), true) := by
     rcases fx_cases d.Files (ix d.Files (i : Int)).Name with ⟨h1, _⟩ | ⟨a, x, b, h1, h2, h3, h4⟩
     ·omega
     ·have hi2 : (i : Int) = (a.length : Int) := by omega
      have hx : ix d.Files (i : Int) = x := by rw [h1]; exact ix_mid hi2
      unfold lookR
      rw [show look d.Files (ix d.Files (i : Int)).Name = some x by
       conv => lhs; arg 1; rw [h1]
       exact look_mid h3 h4, hx]
    rw [hl]
    show ((need ((((fsts d.Files i).map sfF).length + 1) * 40 ≤ 140737488355328) (some ((fsts d.Files i).map sfF ++ [sfF (ix d.Files (i : Int))]))).bind _) = _
    rw [need_eq (by rw [List.length_map]; omega), Option.bind_some]
    show some (Sum.inl (⟨_, IntKind.wrap .i64 ((i : Int) + 1)⟩ : mewsref16.Files.S0)) = _
    rw [hw, List.map_append]
    rfl
  ·unfold mewsref16.Files.body0
   exact if_neg (by show ¬ (d.Files.length : Int) < (d.Files.length : Int); omega)
 unfold mewsref16.Files
 rw [hloop]
 rfl

/-- A file in the place of that of its name. -/
def repF (f x : api.File) : api.File := if x.Name = f.Name then f else x
def setF (f : api.File) (l : List api.File) : List api.File := if l.any (isN f.Name) then l.map (repF f) else l.map (repF f) ++ [f]

theorem repF_name (f x : api.File) : (repF f x).Name = x.Name := by
 unfold repF
 split
 ·rename_i h; exact h.symm
 ·rfl

theorem look_map {g : api.File → api.File} (hg : ∀ x, (g x).Name = x.Name) (k : List UInt8) : ∀ l : List api.File, look (l.map g) k = (look l k).map g
 | [] => rfl
 | x :: l => by
  unfold look
  rw [List.map_cons, List.find?_cons, List.find?_cons]
  have : isN k (g x) = isN k x := by unfold isN; rw [hg]
  rw [this]
  cases isN k x with
  | true => rfl
  | false => exact look_map hg k l

theorem look_any {l : List api.File} {k : List UInt8} : l.any (isN k) = (look l k).isSome := by
 unfold look
 cases h : l.find? (isN k) with
 | none =>
  rw [Option.isSome_none, List.any_eq_false]
  exact fun x hx => List.find?_eq_none.1 h x hx
 | some x =>
  rw [Option.isSome_some, List.any_eq_true]
  exact ⟨x, List.mem_of_find?_eq_some h, List.find?_some h⟩

theorem look_setF (f : api.File) (l : List api.File) (k : List UInt8) : look (setF f l) k = if k = f.Name then some f else look l k := by
 have hne : k ≠ f.Name → (look l k).map (repF f) = look l k := fun h => by
  cases e : look l k with
  | none => rfl
  | some x =>
   show some (repF f x) = some x
   unfold repF
   rw [if_neg]
   rw [(look_some e).2]
   exact h
 unfold setF
 rw [look_any]
 cases e : look l f.Name with
 | some x =>
  rw [if_pos (show (some x).isSome = true from rfl), look_map (repF_name f)]
  by_cases hk : k = f.Name
  ·subst hk
   rw [if_pos rfl, e]
   show some (repF f x) = some f
   unfold repF
   rw [if_pos (look_some e).2]
  ·rw [if_neg hk, hne hk]
 | none =>
  rw [if_neg (by simp), look_append, look_map (repF_name f)]
  by_cases hk : k = f.Name
  ·subst hk
   rw [if_pos rfl, e]
   show look [f] f.Name = some f
   exact look_mid (a := []) rfl (by simp)
  ·rw [if_neg hk, hne hk]
   have : look [f] k = none := look_none fun x hx => by
    obtain rfl : x = f := by simpa using hx
    exact fun e => hk e.symm
   rw [this]
   cases look l k <;> rfl

theorem setF_len (f : api.File) (l : List api.File) : (setF f l).length ≤ l.length + 1 := by
 unfold setF
 split
 ·rw [List.length_map]; omega
 ·rw [List.length_append, List.length_map]; simp

theorem setF_mem {f : api.File} {l : List api.File} {x : api.File} (h : x ∈ setF f l) : x = f ∨ x ∈ l := by
 have hm : ∀ x, x ∈ l.map (repF f) → x = f ∨ x ∈ l := fun x hx => by
  obtain ⟨y, hy, rfl⟩ := List.mem_map.1 hx
  unfold repF
  split
  ·exact .inl rfl
  ·exact .inr hy
 unfold setF at h
 split at h
 ·exact hm x h
 ·rcases List.mem_append.1 h with h | h
  ·exact hm x h
  ·exact .inl (by simpa using h)

theorem with_eq {d : api.Disk} (hd : d.Files.length < 1000000) (f : api.File) : mewsref16.with_ d f = some { d with Files := setF f (cnt d.Files) } := by
 have hcl := cnt_len d.Files
 unfold mewsref16.with_
 rw [Files_eq hd, Option.bind_some]
 generalize cnt d.Files = l at hcl
 have hloop : mewsref16.with_.loop0 l f ⟨false, 0, []⟩ = some (l.any (isN f.Name), l.map (repF f)) := by
  unfold mewsref16.with_.loop0
  refine whileO_knownE ⟨false, 0, []⟩ (fun i => (⟨(l.take i).any (isN f.Name), (i : Int), (l.take i).map (repF f)⟩ : mewsref16.with_.S0)) l.length (fun i hi => ?_) ?_
  ·unfold mewsref16.with_.body0
   show (if (i : Int) < (l.length : Int) then _ else _) = _
   rw [if_pos (by omega)]
   have hin : InB (i : Int) l.length := ⟨by omega, by omega⟩
   have hw : IntKind.wrap .i64 ((i : Int) + 1) = ((i + 1 : Nat) : Int) := by rw [i64w (by omega) (by omega)]; omega
   show ((need (InB (i : Int) l.length) (if (ix l (i : Int)).Name = f.Name then need ((((l.take i).map (repF f)).length + 1) * 40 ≤ 140737488355328) (some (true, (l.take i).map (repF f) ++ [f])) else need (InB (i : Int) l.length) (need ((((l.take i).map (repF f)).length + 1) * 40 ≤ 140737488355328) (some ((l.take i).any (isN f.Name), (l.take i).map (repF f) ++ [ix l (i : Int)]))))).bind _) = _
   rw [need_eq hin, need_eq hin, need_eq (by rw [List.length_map, List.length_take]; omega), need_eq (by rw [List.length_map, List.length_take]; omega)]
   have e : (if (ix l (i : Int)).Name = f.Name then some (true, (l.take i).map (repF f) ++ [f]) else some ((l.take i).any (isN f.Name), (l.take i).map (repF f) ++ [ix l (i : Int)])) = some ((l.take (i + 1)).any (isN f.Name), (l.take (i + 1)).map (repF f)) := by
    rw [List.take_add_one, List.getElem?_eq_getElem hi, List.any_append, List.map_append, ← ix_get hi]
    by_cases h : (ix l (i : Int)).Name = f.Name
    ·rw [if_pos h]
     simp [isN, repF, h]
    ·rw [if_neg h]
     simp [isN, repF, h]
   rw [e, Option.bind_some]
   show some (Sum.inl (⟨_, IntKind.wrap .i64 ((i : Int) + 1), _⟩ : mewsref16.with_.S0)) = _
   rw [hw]
  ·unfold mewsref16.with_.body0
   show (if (l.length : Int) < (l.length : Int) then _ else _) = _
   rw [if_neg (by omega), List.take_length]
 rw [hloop, Option.bind_some]
 unfold setF
 show ((if (!l.any (isN f.Name)) = true then need (((l.map (repF f)).length + 1) * 40 ≤ 140737488355328) (some (l.map (repF f) ++ [f])) else some (l.map (repF f))).bind _) = _
 rw [need_eq (by rw [List.length_map]; omega)]
 cases l.any (isN f.Name) <;> rfl

theorem Meets_eq {d : api.Disk} (hd : d.Faults.length < 1000000) (name : List UInt8) (kind : Int) : mewsref16.Meets d name kind = some ({ d with Faults := (takeF name kind d.Faults).2 }, (takeF name kind d.Faults).1.getD ⟨[], 0, 0⟩, (takeF name kind d.Faults).1.isSome) := by
 have hloop : mewsref16.Meets.loop0 d name kind ⟨false, 0, [], [], 0, 0⟩ = some ((takeF name kind d.Faults).1.isSome, (takeF name kind d.Faults).2, ((takeF name kind d.Faults).1.getD ⟨[], 0, 0⟩).Name, ((takeF name kind d.Faults).1.getD ⟨[], 0, 0⟩).Kind, ((takeF name kind d.Faults).1.getD ⟨[], 0, 0⟩).Short) := by
  generalize hl : d.Faults = l
  have hd' : l.length < 1000000 := by rw [← hl]; exact hd
  -- behind the first that is met
  have hrest : ∀ (m i : Nat) (c : List api.Fault) (f : api.Fault), i + m = l.length → c.length ≤ i → mewsref16.Meets.loop0 d name kind ⟨true, (i : Int), c, f.Name, f.Kind, f.Short⟩ = some (true, c ++ l.drop i, f.Name, f.Kind, f.Short) := by
   intro m
   induction m with
   | zero =>
    intro i c f hi hc
    unfold mewsref16.Meets.loop0
    refine whileO_end ?_
    unfold mewsref16.Meets.body0
    show (if (i : Int) < (d.Faults.length : Int) then _ else _) = _
    rw [if_neg (by rw [hl]; omega), List.drop_of_length_le (by omega), List.append_nil]
   | succ m ih =>
    intro i c f hi hc
    have hin : i < l.length := by omega
    have hw : IntKind.wrap .i64 ((i : Int) + 1) = ((i + 1 : Nat) : Int) := by rw [i64w (by omega) (by omega)]; omega
    unfold mewsref16.Meets.loop0
    rw [whileO_stp (s' := ⟨true, ((i + 1 : Nat) : Int), c ++ [l[i]], f.Name, f.Kind, f.Short⟩)]
    ·refine (ih (i + 1) (c ++ [l[i]]) f (by omega) (by simp; omega)).trans ?_
     rw [List.append_assoc, List.drop_eq_getElem_cons hin]
     rfl
    ·unfold mewsref16.Meets.body0
     rw [hl]
     show (if (i : Int) < (l.length : Int) then _ else _) = _
     rw [if_pos (by omega)]
     show ((need (InB (i : Int) l.length) (need ((c.length + 1) * 32 ≤ 140737488355328) (some (true, c ++ [ix l (i : Int)], f.Name, f.Kind, f.Short)))).bind _) = _
     rw [need_eq ⟨by omega, by omega⟩, need_eq (by omega), Option.bind_some, ix_get hin]
     show some (Sum.inl (⟨_, IntKind.wrap .i64 ((i : Int) + 1), _, _, _, _⟩ : mewsref16.Meets.S0)) = _
     rw [hw]
  have hgo : ∀ (m i : Nat), i + m = l.length → (∀ x, x ∈ l.take i → isF name kind x = false) → mewsref16.Meets.loop0 d name kind ⟨false, (i : Int), l.take i, [], 0, 0⟩ = some ((takeF name kind l).1.isSome, (takeF name kind l).2, ((takeF name kind l).1.getD ⟨[], 0, 0⟩).Name, ((takeF name kind l).1.getD ⟨[], 0, 0⟩).Kind, ((takeF name kind l).1.getD ⟨[], 0, 0⟩).Short) := by
   intro m
   induction m with
   | zero =>
    intro i hi hno
    rw [List.take_of_length_le (by omega)] at hno ⊢
    rw [takeF_none hno]
    unfold mewsref16.Meets.loop0
    refine whileO_end ?_
    unfold mewsref16.Meets.body0
    show (if (i : Int) < (d.Faults.length : Int) then _ else _) = _
    rw [if_neg (by rw [hl]; omega)]
    rfl
   | succ m ih =>
    intro i hi hno
    have hin : i < l.length := by omega
    have hw : IntKind.wrap .i64 ((i : Int) + 1) = ((i + 1 : Nat) : Int) := by rw [i64w (by omega) (by omega)]; omega
    have htl : (l.take i).length = i := by rw [List.length_take]; omega
    have hbody : mewsref16.Meets.body0 d name kind ⟨false, (i : Int), l.take i, [], 0, 0⟩ = if isF name kind l[i] = true then some (.inl ⟨true, ((i + 1 : Nat) : Int), l.take i, l[i].Name, l[i].Kind, l[i].Short⟩) else some (.inl ⟨false, ((i + 1 : Nat) : Int), l.take i ++ [l[i]], [], 0, 0⟩) := by
     unfold mewsref16.Meets.body0
     rw [hl]
     show (if (i : Int) < (l.length : Int) then _ else _) = _
     rw [if_pos (by omega)]
     show ((need (InB (i : Int) l.length) (letO (if (ix l (i : Int)).Name = name then decide ((ix l (i : Int)).Kind = kind) else false) _)).bind _) = _
     rw [need_eq ⟨by omega, by omega⟩, ix_get hin]
     have e : (if l[i].Name = name then decide (l[i].Kind = kind) else false) = isF name kind l[i] := by
      unfold isF
      by_cases h : l[i].Name = name
      ·rw [if_pos h]; simp [h]
      ·rw [if_neg h]; simp [h]
     rw [e]
     unfold letO
     cases isF name kind l[i] with
     | true =>
      show some (Sum.inl (⟨true, IntKind.wrap .i64 ((i : Int) + 1), _, _, _, _⟩ : mewsref16.Meets.S0)) = _
      rw [hw]
      rfl
     | false =>
      show ((need (((l.take i).length + 1) * 32 ≤ 140737488355328) (some (false, l.take i ++ [l[i]], ([] : List UInt8), (0 : Int), (0 : Int)))).bind _) = _
      rw [need_eq (by omega), Option.bind_some]
      show some (Sum.inl (⟨false, IntKind.wrap .i64 ((i : Int) + 1), _, _, _, _⟩ : mewsref16.Meets.S0)) = _
      rw [hw]
      rfl
    unfold mewsref16.Meets.loop0
    cases hf : isF name kind l[i] with
    | true =>
     rw [hf, if_pos rfl] at hbody
     rw [whileO_stp hbody]
     refine (hrest m (i + 1) (l.take i) l[i] (by omega) (by omega)).trans ?_
     have hsplit : l = l.take i ++ l[i] :: l.drop (i + 1) := by
      rw [← List.drop_eq_getElem_cons hin, List.take_append_drop]
     have := takeF_mid (a := l.take i) (b := l.drop (i + 1)) hf hno
     rw [← hsplit] at this
     rw [this]
     rfl
    | false =>
     rw [hf, if_neg (by decide)] at hbody
     rw [whileO_stp hbody]
     have e : l.take i ++ [l[i]] = l.take (i + 1) := by rw [List.take_add_one, List.getElem?_eq_getElem hin]; rfl
     rw [e]
     refine ih (i + 1) (by omega) fun x hx => ?_
     rw [← e] at hx
     rcases List.mem_append.1 hx with hx | hx
     ·exact hno x hx
     ·obtain rfl : x = l[i] := by simpa using hx
      exact hf
  exact hgo l.length 0 (by omega) (fun x hx => by simp at hx)
 unfold mewsref16.Meets
 rw [hloop]
 rfl

end Go.Pu

set_option maxHeartbeats 0
set_option maxRecDepth 100000
namespace Go.Pu
open Go.Lift

/-- What a name has. -/
def mm (l : List api.File) (k : List UInt8) : Option api.File := (look l k).map sfF
/-- Two disks are alike. -/
structure Rl (d r : api.Disk) : Prop where
 m : ∀ k, mm d.Files k = mm r.Files k
 t : d.Faults = r.Faults
/-- The sizes of a disk. -/
structure BD (n : Nat) (d : api.Disk) : Prop where
 f : d.Files.length ≤ n
 t : d.Faults.length ≤ n
 b : ∀ x, x ∈ d.Files → x.Data.length ≤ n
theorem BD.mono {a b : Nat} {d : api.Disk} (h : BD a d) (hab : a ≤ b) : BD b d := ⟨Nat.le_trans h.f hab, Nat.le_trans h.t hab, fun x hx => Nat.le_trans (h.b x hx) hab⟩
theorem BD.sz {a : Nat} {d : api.Disk} (h : BD a d) (hab : a ≤ 800000) : DSz d := ⟨by have := h.f; omega, by have := h.t; omega, fun x hx => by have := h.b x hx; omega⟩

theorem mm_iff {l : List api.File} {k : List UInt8} : (mm l k).isSome = (look l k).isSome := by unfold mm; cases look l k <;> rfl
theorem mm_set (f : api.File) (l : List api.File) (k : List UInt8) : mm (setF f (cnt l)) k = if k = f.Name then some (sfF f) else mm l k := by
 unfold mm
 rw [look_setF]
 split
 ·rfl
 ·rw [look_cnt]
  cases look l k with
  | none => rfl
  | some x => show some (sfF (sfF x)) = some (sfF x); rw [sfF_sfF]

theorem lookR_mm (l : List api.File) (k : List UInt8) : lookR l k = match mm l k with | some x => (x, true) | none => (⟨[], [], 0⟩, false) := by
 unfold lookR mm
 cases look l k <;> rfl
theorem mm_name {l : List api.File} {k : List UInt8} {x : api.File} (h : mm l k = some x) : x.Name = k ∧ sfF x = x ∧ ∃ y, y ∈ l ∧ x = sfF y := by
 unfold mm at h
 cases e : look l k with
 | none => rw [e] at h; cases h
 | some y =>
  rw [e] at h
  obtain rfl : sfF y = x := Option.some.inj h
  exact ⟨(look_some e).2, sfF_sfF y, y, (look_some e).1, rfl⟩

theorem modF_mem {g : api.File → api.File} {name : List UInt8} {x : api.File} : ∀ {l : List api.File}, x ∈ modF g name l → x ∈ l ∨ ∃ y, y ∈ l ∧ x = g y
 | [], h => by cases h
 | y :: l, h => by
  unfold modF at h
  split at h
  ·rcases List.mem_cons.1 h with h | h
   ·exact .inr ⟨y, List.mem_cons_self .., h⟩
   ·exact .inl (List.mem_cons_of_mem _ h)
  ·rcases List.mem_cons.1 h with h | h
   ·exact .inl (h ▸ List.mem_cons_self ..)
   ·rcases modF_mem h with h | ⟨z, hz, e⟩
    ·exact .inl (List.mem_cons_of_mem _ h)
    ·exact .inr ⟨z, List.mem_cons_of_mem _ hz, e⟩

theorem look_cnt_mm (l : List api.File) (k : List UInt8) : look (cnt l) k = mm l k := look_cnt l k

/-! ### Sync -/
theorem sfF_syF (x : api.File) : sfF (syF x) = syF (sfF x) := by
 unfold sfF syF
 have : clampN (x.Data.length : Int) x.Data.length = x.Data.length := by unfold clampN; omega
 show ({ Name := x.Name, Data := x.Data, Synced := (clampN (x.Data.length : Int) x.Data.length : Int) } : api.File) = _
 rw [this]

theorem mm_mod {g : api.File → api.File} (hg : ∀ x, (g x).Name = x.Name) (hs : ∀ x, sfF (g x) = g (sfF x)) (name : List UInt8) (l : List api.File) (k : List UInt8) : mm (modF g name l) k = if k = name then (mm l name).map g else mm l k := by
 unfold mm
 rw [look_modF g hg]
 split
 ·cases look l name with
  | none => rfl
  | some x => show some (sfF (g x)) = some (g (sfF x)); rw [hs]
 ·rfl

theorem BD.take {n : Nat} {d : api.Disk} (h : BD n d) (name : List UInt8) (kind : Int) : BD n { d with Faults := (takeF name kind d.Faults).2 } :=
 ⟨h.f, Nat.le_trans (takeF_len name kind d.Faults) h.t, h.b⟩

theorem BD.set {n : Nat} {r : api.Disk} (h : BD n r) {f : api.File} (hf : f.Data.length ≤ n) (fl : List api.Fault) (ht : fl.length ≤ n) : BD (n + 1) { Files := setF f (cnt r.Files), Faults := fl } := by
 have := setF_len f (cnt r.Files)
 have hcl := cnt_len r.Files
 have := h.f
 refine ⟨by show (setF _ _).length ≤ _; omega, by show fl.length ≤ _; omega, fun x hx => ?_⟩
 rcases setF_mem hx with rfl | hx
 ·omega
 ·obtain ⟨y, hy, rfl⟩ := cnt_mem hx
  have := h.b y hy
  show y.Data.length ≤ _
  omega

theorem BD.mod {n : Nat} {d : api.Disk} (h : BD n d) {g : api.File → api.File} (hg : ∀ x, (g x).Data.length ≤ x.Data.length) (name : List UInt8) (fl : List api.Fault) (ht : fl.length ≤ n) : BD (n + 1) { Files := modF g name d.Files, Faults := fl } := by
 have := h.f
 refine ⟨by show (modF _ _ _).length ≤ _; rw [modF_len]; omega, by show fl.length ≤ _; omega, fun x hx => ?_⟩
 rcases modF_mem hx with hx | ⟨y, hy, rfl⟩
 ·have := h.b x hx; omega
 ·have := h.b y hy
  have := hg y
  omega

theorem Sync_step {n : Nat} {d r : api.Disk} (h : Rl d r) (hd : BD n d) (hr : BD n r) (name : List UInt8) (hn : n + 1 ≤ 800000) :
  ∃ d' r' e, disk.Sync d name = some (d', e) ∧ mewsref16.Sync r name = some (r', e) ∧ Rl d' r' ∧ BD (n + 1) d' ∧ BD (n + 1) r' := by
 have hsz := hd.sz (by omega)
 have hrf := hr.f
 have hrt := hr.t
 rw [Sync_eq hsz]
 unfold mewsref16.Sync
 rw [RFind_eq (by omega), Option.bind_some, lookR_mm, ← mm_iff, h.m, Meets_eq (by omega)]
 cases e : mm r.Files name with
 | none => exact ⟨d, r, 8, rfl, rfl, h, hd.mono (by omega), hr.mono (by omega)⟩
 | some x =>
  obtain ⟨hx1, hx2, y, hy, rfl⟩ := mm_name e
  show ∃ d' r' e, (some (if (takeF name 2 d.Faults).1.isSome = true then _ else _) : Option (api.Disk × Int)) = some (d', e) ∧ (if (takeF name 2 r.Faults).1.isSome = true then some (_, (15 : Int)) else ((mewsref16.with_ { r with Faults := (takeF name 2 r.Faults).2 } (syF (sfF y))).bind fun r19 => some (r19, (0 : Int)))) = some (r', e) ∧ _
  rw [with_eq (by show r.Files.length < 1000000; omega), Option.bind_some, h.t]
  by_cases hi : (takeF name 2 r.Faults).1.isSome = true
  ·rw [if_pos hi, if_pos hi]
   refine ⟨_, _, _, rfl, rfl, ⟨h.m, rfl⟩, ?_, (hr.take name 2).mono (by omega)⟩
   have := hd.take name 2
   rw [h.t] at this
   exact this.mono (by omega)
  ·rw [if_neg hi, if_neg hi]
   have hfl := takeF_len name 2 r.Faults
   refine ⟨_, _, _, rfl, rfl, ⟨fun k => ?_, rfl⟩, hd.mod (g := syF) (fun x => Nat.le_refl _) name _ (by omega), hr.set (f := syF (sfF y)) (hr.b y hy) _ (by show (takeF name 2 r.Faults).2.length ≤ n; omega)⟩
   show mm (modF syF name d.Files) k = mm (setF (syF (sfF y)) (cnt r.Files)) k
   rw [mm_mod (g := syF) (fun _ => rfl) sfF_syF, mm_set, h.m, h.m, e, ← sfF_syF, sfF_sfF]
   show _ = if k = y.Name then _ else _
   rw [show y.Name = name from hx1]
   split
   ·show some (syF (sfF y)) = _
    rw [← sfF_syF]
   ·rfl

/-! ### Remove -/
theorem look_not (l : List api.File) (name k : List UInt8) : look (l.filter (notN name)) k = if k = name then none else look l k := by
 split
 ·rename_i hk
  refine look_none fun x hx e => ?_
  have := (List.mem_filter.1 hx).2
  unfold notN at this
  rw [isN_iff.2 (e.trans hk)] at this
  cases this
 ·rename_i hk
  refine look_filter l fun f hf => ?_
  unfold notN
  rw [isN_not.2 (fun e => hk (hf.symm.trans e))]
  rfl

theorem RRemove_eq {d : api.Disk} (hd : d.Files.length < 1000000) (name : List UInt8) : mewsref16.Remove d name = some { d with Files := (cnt d.Files).filter (notN name) } := by
 have hcl := cnt_len d.Files
 unfold mewsref16.Remove
 rw [Files_eq hd, Option.bind_some]
 generalize cnt d.Files = l at hcl
 have hloop : mewsref16.Remove.loop0 l name ⟨0, []⟩ = some (l.filter (notN name)) := by
  unfold mewsref16.Remove.loop0
  refine whileO_knownE ⟨0, []⟩ (fun i => (⟨(i : Int), (l.take i).filter (notN name)⟩ : mewsref16.Remove.S0)) l.length (fun i hi => ?_) ?_
  ·unfold mewsref16.Remove.body0
   have hfl := List.length_filter_le (notN name) (l.take i)
   rw [List.length_take] at hfl
   have hin : InB (i : Int) l.length := ⟨by omega, by omega⟩
   show (if (i : Int) < (l.length : Int) then _ else _) = _
   rw [if_pos (by omega)]
   show ((need (InB (i : Int) l.length) (if (ix l (i : Int)).Name = name then some ((l.take i).filter (notN name)) else need (InB (i : Int) l.length) (need ((((l.take i).filter (notN name)).length + 1) * 40 ≤ 140737488355328) (some ((l.take i).filter (notN name) ++ [ix l (i : Int)]))))).bind _) = _
   rw [need_eq hin, need_eq hin, need_eq (by omega)]
   have e : (if (ix l (i : Int)).Name = name then some ((l.take i).filter (notN name)) else some ((l.take i).filter (notN name) ++ [ix l (i : Int)])) = some ((l.take (i + 1)).filter (notN name)) := by
    rw [List.take_add_one, List.getElem?_eq_getElem hi, List.filter_append, ← ix_get hi]
    by_cases hx : (ix l (i : Int)).Name = name
    ·rw [if_pos hx]; simp [notN, isN, hx]
    ·rw [if_neg hx]; simp [notN, isN, hx]
   rw [e, Option.bind_some]
   show some (Sum.inl (⟨IntKind.wrap .i64 ((i : Int) + 1), _⟩ : mewsref16.Remove.S0)) = _
   rw [i64w (by omega) (by omega), show (i : Int) + 1 = ((i + 1 : Nat) : Int) by omega]
  ·unfold mewsref16.Remove.body0
   show (if (l.length : Int) < (l.length : Int) then _ else _) = _
   rw [if_neg (by omega), List.take_length]
 rw [hloop]
 rfl

theorem mm_not (l : List api.File) (name k : List UInt8) : mm (l.filter (notN name)) k = if k = name then none else mm l k := by
 unfold mm
 rw [look_not]
 split <;> rfl
theorem mm_notc (l : List api.File) (name k : List UInt8) : mm ((cnt l).filter (notN name)) k = if k = name then none else mm l k := by
 rw [mm_not]
 split
 ·rfl
 ·unfold mm
  rw [look_cnt]
  cases look l k with
  | none => rfl
  | some x => show some (sfF (sfF x)) = some (sfF x); rw [sfF_sfF]

theorem BD.sub {n : Nat} {d : api.Disk} (h : BD n d) {l : List api.File} (hl : l.length ≤ d.Files.length) (hm : ∀ x, x ∈ l → ∃ y, y ∈ d.Files ∧ x.Data.length ≤ y.Data.length) (fl : List api.Fault) (ht : fl.length ≤ n) : BD (n + 1) { Files := l, Faults := fl } := by
 have := h.f
 refine ⟨by show l.length ≤ _; omega, by show fl.length ≤ _; omega, fun x hx => ?_⟩
 obtain ⟨y, hy, e⟩ := hm x hx
 have := h.b y hy
 omega

theorem Remove_step {n : Nat} {d r : api.Disk} (h : Rl d r) (hd : BD n d) (hr : BD n r) (name : List UInt8) (hn : n + 1 ≤ 800000) :
  ∃ d' r', disk.Remove d name = some d' ∧ mewsref16.Remove r name = some r' ∧ Rl d' r' ∧ BD (n + 1) d' ∧ BD (n + 1) r' := by
 have hsz := hd.sz (by omega)
 have hrf := hr.f
 refine ⟨_, _, Remove_eq hsz name, RRemove_eq (by omega) name, ⟨fun k => ?_, h.t⟩, hd.sub (List.length_filter_le _ _) (fun x hx => ⟨x, (List.mem_filter.1 hx).1, Nat.le_refl _⟩) _ hd.t, hr.sub (Nat.le_trans (List.length_filter_le _ _) (cnt_len _)) (fun x hx => ?_) _ hr.t⟩
 ·show mm (d.Files.filter (notN name)) k = mm ((cnt r.Files).filter (notN name)) k
  rw [mm_not, mm_notc, h.m]
 ·obtain ⟨y, hy, rfl⟩ := cnt_mem (List.mem_filter.1 hx).1
  exact ⟨y, hy, Nat.le_refl _⟩

end Go.Pu

set_option maxHeartbeats 0
set_option maxRecDepth 100000
namespace Go.Pu
open Go.Lift

/-- What is written behind. -/
def addF (s : List UInt8) (y : api.File) : api.File := { Name := y.Name, Data := y.Data ++ s, Synced := y.Synced }
theorem sfF_wrF (s : List UInt8) (x : api.File) : sfF (wrF s x) = addF s (sfF x) := by
 unfold sfF wrF addF
 have : clampN (clampN x.Synced x.Data.length : Int) (x.Data ++ s).length = clampN x.Synced x.Data.length := by
  rw [List.length_append]; unfold clampN; omega
 rw [this]
theorem sfF_addF (s : List UInt8) (x : api.File) : sfF (addF s (sfF x)) = addF s (sfF x) := by
 rw [← sfF_wrF, sfF_sfF]

def wrM (o : Option api.File) (name s : List UInt8) : api.File := match o with | some y => addF s y | none => { Name := name, Data := s, Synced := 0 }

theorem mm_put (l : List api.File) (name s k : List UInt8) : mm (putF l name s) k = if k = name then some (wrM (mm l name) name s) else mm l k := by
 unfold mm
 rw [look_putF]
 split
 ·cases look l name with
  | none =>
   show some (sfF ({ Name := name, Data := s, Synced := 0 } : api.File)) = some ({ Name := name, Data := s, Synced := 0 } : api.File)
   unfold sfF clampN
   simp
  | some x => show some (sfF (wrF s x)) = some (addF s (sfF x)); rw [sfF_wrF]
 ·rfl

theorem Write_step {n : Nat} {d r : api.Disk} (h : Rl d r) (hd : BD n d) (hr : BD n r) (name s : List UInt8) (hn : n + s.length + 1 ≤ 800000) :
  ∃ d' r' m e, disk.Write d name s = some (d', m, e) ∧ mewsref16.Write r name s = some (r', m, e) ∧ Rl d' r' ∧ BD (n + s.length + 1) d' ∧ BD (n + s.length + 1) r' := by
 have hsz := hd.sz (by omega)
 refine ⟨_, { Files := setF { Name := name, Data := (lookR r.Files name).1.Data ++ wrS (takeF name 1 r.Faults).1 s, Synced := (lookR r.Files name).1.Synced } (cnt r.Files), Faults := (takeF name 1 r.Faults).2 }, _, _, Write_eq hsz name s (by omega), ?_, ⟨fun k => ?_, ?_⟩, ?_, ?_⟩
 ·have hrf := hr.f
  have hrt := hr.t
  have hR : ((lookR r.Files name).1.Data).length ≤ n := by
   rw [lookR_mm]
   cases e : mm r.Files name with
   | none => exact Nat.zero_le _
   | some x =>
    obtain ⟨_, _, y, hy, rfl⟩ := mm_name e
    exact hr.b y hy
  unfold mewsref16.Write
  rw [Meets_eq (by omega), Option.bind_some, h.t]
  generalize takeF name 1 r.Faults = q
  obtain ⟨o, fl⟩ := q
  have hsl := wrS_le o s
  have hmid : (if o.isSome = true then (mewsref16.between (o.getD ⟨[], 0, 0⟩).Short (s.length : Int)).bind fun r31 => need (InR 0 r31 s.length) (some (sub s 0 r31, (15 : Int))) else some (s, (0 : Int))) = some (wrS o s, wrE o) := by
   cases o with
   | none => rfl
   | some f =>
    have hc := clampN_le f.Short s.length
    rw [if_pos (show (some f).isSome = true from rfl)]
    show ((mewsref16.between f.Short (s.length : Int)).bind _) = _
    rw [btw_eq, Option.bind_some, need_eq ⟨by omega, by omega, by omega⟩, sub0]
    rfl
  show ((if o.isSome = true then (mewsref16.between (o.getD ⟨[], 0, 0⟩).Short (s.length : Int)).bind fun r31 => need (InR 0 r31 s.length) (some (sub s 0 r31, (15 : Int))) else some (s, (0 : Int))).bind _) = _
  rw [hmid, Option.bind_some, RFind_eq (by show r.Files.length < 1000000000; omega), Option.bind_some]
  show (need ((lookR r.Files name).1.Data.length + (wrS o s).length ≤ 9223372036854775807) ((mewsref16.with_ { r with Faults := fl } ({ Name := name, Data := (lookR r.Files name).1.Data ++ wrS o s, Synced := (lookR r.Files name).1.Synced } : api.File)).bind _)) = _
  rw [need_eq (by omega), with_eq (by show r.Files.length < 1000000; omega), Option.bind_some]
 ·show mm (putF d.Files name (wrS (takeF name 1 d.Faults).1 s)) k = mm (setF _ (cnt r.Files)) k
  rw [mm_put, mm_set, h.m, h.m, h.t]
  show _ = if k = name then _ else _
  generalize wrS (takeF name 1 r.Faults).1 s = sw
  split
  ·rw [lookR_mm]
   cases e : mm r.Files name with
   | none =>
    show some ({ Name := name, Data := _, Synced := 0 } : api.File) = some (sfF ({ Name := name, Data := [] ++ _, Synced := 0 } : api.File))
    unfold sfF clampN
    simp
   | some x =>
    obtain ⟨hx1, hx2, y, hy, rfl⟩ := mm_name e
    have hsa := sfF_addF sw y
    unfold addF at hsa
    show some (addF _ (sfF y)) = some (sfF { Name := name, Data := (sfF y).Data ++ sw, Synced := (sfF y).Synced })
    rw [← hx1, hsa]
    rfl
  ·rfl
 ·show (takeF name 1 d.Faults).2 = _
  rw [h.t]
 ·have := takeF_len name 1 d.Faults
  have hsl := wrS_le (takeF name 1 d.Faults).1 s
  have := hd.f
  have := hd.t
  refine ⟨?_, by show (takeF name 1 d.Faults).2.length ≤ _; omega, fun x hx => ?_⟩
  ·show (putF d.Files name _).length ≤ _
   unfold putF
   split
   ·rw [modF_len]; omega
   ·rw [List.length_append, List.length_singleton]; omega
  ·have hx : x ∈ putF d.Files name (wrS (takeF name 1 d.Faults).1 s) := hx
   unfold putF at hx
   split at hx
   ·rcases modF_mem hx with hx | ⟨y, hy, rfl⟩
    ·have := hd.b x hx; omega
    ·have := hd.b y hy
     show (y.Data ++ _).length ≤ _
     rw [List.length_append]; omega
   ·rcases List.mem_append.1 hx with hx | hx
    ·have := hd.b x hx; omega
    ·obtain rfl := List.mem_singleton.1 hx
     show (wrS _ s).length ≤ _
     omega
 ·have := takeF_len name 1 r.Faults
  have hsl := wrS_le (takeF name 1 r.Faults).1 s
  have := hr.f
  have := hr.t
  have hcl := cnt_len r.Files
  refine ⟨?_, by show (takeF name 1 r.Faults).2.length ≤ _; omega, fun x hx => ?_⟩
  ·have := setF_len ({ Name := name, Data := (lookR r.Files name).1.Data ++ wrS (takeF name 1 r.Faults).1 s, Synced := (lookR r.Files name).1.Synced }) (cnt r.Files)
   show (setF _ _).length ≤ _
   omega
  ·rcases setF_mem hx with rfl | hx
   ·show ((lookR r.Files name).1.Data ++ _).length ≤ _
    rw [List.length_append]
    have hR : ((lookR r.Files name).1.Data).length ≤ n := by
     rw [lookR_mm]
     cases e : mm r.Files name with
     | none => exact Nat.zero_le _
     | some x =>
      obtain ⟨_, _, y, hy, rfl⟩ := mm_name e
      exact hr.b y hy
    omega
   ·obtain ⟨y, hy, rfl⟩ := cnt_mem hx
    have := hr.b y hy
    show y.Data.length ≤ _
    omega

end Go.Pu

set_option maxHeartbeats 0
set_option maxRecDepth 100000
namespace Go.Pu
open Go.Lift

/-! ### Rename -/
theorem look_renF_all (frm to k : List UInt8) {l : List api.File} (h : (look l frm).isSome = true) : look (renF frm to l) k = if k = to then (look l frm).map (fun x => { x with Name := to }) else if k = frm then none else look l k := by
 by_cases h1 : k = to
 ·subst h1
  rw [if_pos rfl]
  rcases fx_cases l frm with ⟨_, h2⟩ | ⟨a, x, b, e, h2, h3, h4⟩
  ·rw [look_none h2] at h; cases h
  ·rw [e, renF_mid h3 h4, look_mid h3 h4]
   exact look_mid (x := { x with Name := k }) rfl fun y hy e => by
    have := (List.mem_filter.1 hy).2
    unfold renQ at this
    rw [isN_iff.2 e] at this
    cases this
 ·rw [if_neg h1]
  by_cases h2 : k = frm
  ·subst h2
   rw [if_pos rfl]
   rcases fx_cases l k with ⟨_, h2⟩ | ⟨a, x, b, e, h2, h3, h4⟩
   ·rw [look_none h2] at h; cases h
   ·rw [e, renF_mid h3 h4]
    have hq : ∀ y : api.File, renQ k to y = true → y.Name ≠ k := fun y hy e => by
     unfold renQ at hy
     rw [isN_iff.2 e, Bool.not_true, Bool.and_false] at hy
     cases hy
    refine look_none fun y hy => ?_
    rcases List.mem_append.1 hy with hy | hy
    ·exact hq y (List.mem_filter.1 hy).2
    ·rcases List.mem_cons.1 hy with rfl | hy
     ·exact fun e => h1 e.symm
     ·exact hq y (List.mem_filter.1 hy).2
  ·rw [if_neg h2, look_renF h2 h1]

theorem renF_mem (frm to : List UInt8) : ∀ {l : List api.File} {x : api.File}, x ∈ renF frm to l → ∃ y, y ∈ l ∧ x.Data.length ≤ y.Data.length
 | [], x, h => by cases h
 | z :: l, x, h => by
  unfold renF at h
  split at h
  ·rcases List.mem_cons.1 h with rfl | h
   ·exact ⟨z, List.mem_cons_self .., Nat.le_refl _⟩
   ·exact ⟨x, List.mem_cons_of_mem _ (List.mem_filter.1 h).1, Nat.le_refl _⟩
  ·split at h
   ·obtain ⟨y, hy, e⟩ := renF_mem frm to h
    exact ⟨y, List.mem_cons_of_mem _ hy, e⟩
   ·rcases List.mem_cons.1 h with rfl | h
    ·exact ⟨x, List.mem_cons_self .., Nat.le_refl _⟩
    ·obtain ⟨y, hy, e⟩ := renF_mem frm to h
     exact ⟨y, List.mem_cons_of_mem _ hy, e⟩

/-- The document's renaming. -/
def rnF (frm to : List UInt8) (x y : api.File) : api.File := if y.Name = frm then { x with Name := to } else y

theorem look_rnF (frm to k : List UInt8) (x : api.File) : ∀ (l : List api.File), (frm ≠ to → look l to = none) → look (l.map (rnF frm to x)) k = if k = to then (if (look l frm).isSome then some { x with Name := to } else none) else if k = frm then none else look l k
 | [], _ => by unfold look; simp
 | y :: l, h => by
  have hc : ∀ (a : api.File) (t : List api.File) (n : List UInt8), look (a :: t) n = if a.Name = n then some a else look t n := fun a t n => by
   unfold look
   rw [List.find?_cons]
   by_cases e : a.Name = n
   ·rw [isN_iff.2 e, if_pos e]
   ·rw [isN_not.2 e, if_neg e]
  have ih := look_rnF frm to k x l fun hne => by
   have := h hne
   rw [hc] at this
   by_cases e : y.Name = to
   ·rw [if_pos e] at this; cases this
   ·rwa [if_neg e] at this
  rw [List.map_cons, hc, hc, hc, ih]
  unfold rnF
  by_cases hy : y.Name = frm
  ·rw [if_pos hy, if_pos hy]
   by_cases hk : k = to
   ·rw [if_pos hk.symm, if_pos hk]; rfl
   ·rw [if_neg hk, if_neg (fun e => hk e.symm), if_neg hk]
    by_cases hk2 : k = frm
    ·rw [if_pos hk2, if_pos hk2]
    ·rw [if_neg hk2, if_neg hk2, if_neg (fun e => hk2 (e.symm.trans hy))]
  ·rw [if_neg hy, if_neg hy]
   have hyt : y.Name ≠ to := fun e => by
    by_cases hne : frm = to
    ·exact hy (e.trans hne.symm)
    ·have := h hne
     rw [hc, if_pos e] at this
     cases this
   by_cases hk : k = to
   ·rw [if_pos hk, if_neg (fun e => hyt (e.trans hk)), if_pos hk]
   ·rw [if_neg hk, if_neg hk]
    by_cases hk2 : k = frm
    ·rw [if_pos hk2, if_pos hk2, if_neg (fun e => hy (e.trans hk2))]
    ·rw [if_neg hk2, if_neg hk2]

theorem Rename_step {n : Nat} {d r : api.Disk} (h : Rl d r) (hd : BD n d) (hr : BD n r) (frm to : List UInt8) (hn : n + 1 ≤ 800000) :
  ∃ d' r' e, disk.Rename d frm to = some (d', e) ∧ mewsref16.Rename r frm to = some (r', e) ∧ Rl d' r' ∧ BD (n + 1) d' ∧ BD (n + 1) r' := by
 have hsz := hd.sz (by omega)
 have hrf := hr.f
 have hrt := hr.t
 rw [Rename_eq hsz]
 unfold mewsref16.Rename
 rw [RFind_eq (by omega), Option.bind_some, lookR_mm, ← mm_iff, h.m, Meets_eq (by omega)]
 cases e : mm r.Files frm with
 | none => exact ⟨d, r, 8, rfl, rfl, h, hd.mono (by omega), hr.mono (by omega)⟩
 | some x =>
  obtain ⟨hx1, hx2, y, hy, rfl⟩ := mm_name e
  obtain ⟨fl, hfl⟩ : ∃ fl, fl = (takeF frm 3 r.Faults).2 := ⟨_, rfl⟩
  have hfll : fl.length ≤ n := by rw [hfl]; exact Nat.le_trans (takeF_len _ _ _) hrt
  -- what is left once the name is free
  obtain ⟨l1, hl1⟩ : ∃ l1 : List api.File, l1 = if frm = to then r.Files else (cnt r.Files).filter (notN to) := ⟨_, rfl⟩
  have hl1len : l1.length ≤ r.Files.length := by
   rw [hl1]
   split
   ·exact Nat.le_refl _
   ·exact Nat.le_trans (List.length_filter_le _ _) (cnt_len _)
  have hl1mem : ∀ z, z ∈ l1 → ∃ y, y ∈ r.Files ∧ z.Data.length ≤ y.Data.length := fun z hz => by
   rw [hl1] at hz
   split at hz
   ·exact ⟨z, hz, Nat.le_refl _⟩
   ·obtain ⟨w, hw, rfl⟩ := cnt_mem (List.mem_filter.1 hz).1
    exact ⟨w, hw, Nat.le_refl _⟩
  have hmm1 : ∀ k, mm l1 k = if frm = to then mm r.Files k else if k = to then none else mm r.Files k := fun k => by
   rw [hl1]
   split
   ·rfl
   ·exact mm_notc r.Files to k
  have hmid : ((if frm = to then some (r.Files, fl) else (mewsref16.Remove { r with Faults := fl } to).bind fun r171 => some (r171.Files, r171.Faults)) : Option (List api.File × List api.Fault)) = some (l1, fl) := by
   rw [RRemove_eq (by show r.Files.length < 1000000; omega), Option.bind_some, hl1]
   split <;> rfl
  have hloop : mewsref16.Rename.loop0 (cnt l1) frm (sfF y, true) to ⟨0, (sfF y).Name, []⟩ = some ((cnt l1).map (rnF frm to (sfF y))) := by
   have hcl := cnt_len l1
   generalize cnt l1 = l at hcl
   unfold mewsref16.Rename.loop0
   have hst : ∀ i, i ≤ l.length → ∀ c, ∃ c', mewsref16.Rename.body0 l frm (sfF y, true) to ⟨(i : Int), c, (l.take i).map (rnF frm to (sfF y))⟩ = if i < l.length then some (.inl ⟨((i + 1 : Nat) : Int), c', (l.take (i + 1)).map (rnF frm to (sfF y))⟩) else some (.inr ((l.take i).map (rnF frm to (sfF y)))) := by
    intro i hi c
    unfold mewsref16.Rename.body0
    by_cases hlt : i < l.length
    ·have hin : InB (i : Int) l.length := ⟨by omega, by omega⟩
     have hw : IntKind.wrap .i64 ((i : Int) + 1) = ((i + 1 : Nat) : Int) := by rw [i64w (by omega) (by omega)]; omega
     rw [if_pos (show (i : Int) < (l.length : Int) by omega)]
     have et : (l.take (i + 1)).map (rnF frm to (sfF y)) = (l.take i).map (rnF frm to (sfF y)) ++ [rnF frm to (sfF y) (ix l (i : Int))] := by
      rw [List.take_add_one, List.getElem?_eq_getElem hlt, List.map_append, ix_get hlt]; rfl
     refine ⟨if (ix l (i : Int)).Name = frm then to else c, ?_⟩
     show ((need (InB (i : Int) l.length) (if (ix l (i : Int)).Name = frm then need ((((l.take i).map (rnF frm to (sfF y))).length + 1) * 40 ≤ 140737488355328) (some (to, (l.take i).map (rnF frm to (sfF y)) ++ [({ (sfF y) with Name := to } : api.File)])) else need (InB (i : Int) l.length) (need ((((l.take i).map (rnF frm to (sfF y))).length + 1) * 40 ≤ 140737488355328) (some (c, (l.take i).map (rnF frm to (sfF y)) ++ [ix l (i : Int)]))))).bind _) = _
     rw [need_eq hin, need_eq hin, need_eq (by rw [List.length_map, List.length_take]; omega), need_eq (by rw [List.length_map, List.length_take]; omega), if_pos hlt, et]
     unfold rnF
     by_cases hx : (ix l (i : Int)).Name = frm
     ·rw [if_pos hx, if_pos hx, if_pos hx, Option.bind_some]
      show some (Sum.inl (⟨IntKind.wrap .i64 ((i : Int) + 1), _, _⟩ : mewsref16.Rename.S0)) = _
      rw [hw]
     ·rw [if_neg hx, if_neg hx, if_neg hx, Option.bind_some]
      show some (Sum.inl (⟨IntKind.wrap .i64 ((i : Int) + 1), _, _⟩ : mewsref16.Rename.S0)) = _
      rw [hw]
    ·refine ⟨c, ?_⟩
     rw [if_neg (show ¬ (i : Int) < (l.length : Int) by omega), if_neg hlt]
   have hall : ∀ (m i : Nat) (c : List UInt8), i + m = l.length → whileO (mewsref16.Rename.body0 l frm (sfF y, true) to) ⟨(i : Int), c, (l.take i).map (rnF frm to (sfF y))⟩ = some (l.map (rnF frm to (sfF y))) := by
    intro m
    induction m with
    | zero =>
     intro i c hi
     obtain ⟨c', hb⟩ := hst i (by omega) c
     rw [if_neg (by omega)] at hb
     rw [whileO_end hb, List.take_of_length_le (by omega)]
    | succ m ih =>
     intro i c hi
     obtain ⟨c', hb⟩ := hst i (by omega) c
     rw [if_pos (by omega)] at hb
     rw [whileO_stp hb]
     exact ih (i + 1) c' (by omega)
   exact hall l.length 0 _ (by omega)
  show ∃ d' r' e, (some (if (takeF frm 3 d.Faults).1.isSome = true then _ else _) : Option (api.Disk × Int)) = some (d', e) ∧ (if (takeF frm 3 r.Faults).1.isSome = true then some (({ r with Faults := (takeF frm 3 r.Faults).2 } : api.Disk), (15 : Int)) else (((if frm = to then some (r.Files, (takeF frm 3 r.Faults).2) else (mewsref16.Remove { r with Faults := (takeF frm 3 r.Faults).2 } to).bind fun r171 => some (r171.Files, r171.Faults)) : Option (List api.File × List api.Fault)).bind fun s168 => (mewsref16.Files ({ Files := s168.1, Faults := s168.2 } : api.Disk)).bind fun r174 => (mewsref16.Rename.loop0 r174 frm (sfF y, true) to ⟨0, (sfF y).Name, ([] : List api.File)⟩).bind fun s243 => some (({ Files := s243, Faults := s168.2 } : api.Disk), (0 : Int)))) = some (r', e) ∧ _
  rw [h.t, ← hfl, hmid, Option.bind_some, Files_eq (by show l1.length < 1000000; omega), Option.bind_some]
  show ∃ d' r' e, (some (if (takeF frm 3 r.Faults).1.isSome = true then _ else _) : Option (api.Disk × Int)) = some (d', e) ∧ (if (takeF frm 3 r.Faults).1.isSome = true then some (({ r with Faults := fl } : api.Disk), (15 : Int)) else (mewsref16.Rename.loop0 (cnt l1) frm (sfF y, true) to ⟨0, (sfF y).Name, ([] : List api.File)⟩).bind fun s243 => some (({ Files := s243, Faults := fl } : api.Disk), (0 : Int))) = some (r', e) ∧ _
  rw [hloop, Option.bind_some]
  by_cases hi : (takeF frm 3 r.Faults).1.isSome = true
  ·rw [if_pos hi, if_pos hi]
   exact ⟨_, _, _, rfl, rfl, ⟨h.m, rfl⟩, ⟨Nat.le_trans hd.f (by omega), by show fl.length ≤ _; omega, fun x hx => Nat.le_trans (hd.b x hx) (by omega)⟩, ⟨Nat.le_trans hr.f (by omega), by show fl.length ≤ _; omega, fun x hx => Nat.le_trans (hr.b x hx) (by omega)⟩⟩
  ·rw [if_neg hi, if_neg hi]
   refine ⟨_, _, _, rfl, rfl, ⟨fun k => ?_, rfl⟩, hd.sub (renF_len _ _ _) (fun x hx => renF_mem frm to hx) _ hfll, hr.sub (by rw [List.length_map]; exact Nat.le_trans (cnt_len _) hl1len) (fun x hx => ?_) _ hfll⟩
   ·show mm (renF frm to d.Files) k = mm ((cnt l1).map (rnF frm to (sfF y))) k
    have hds : (look d.Files frm).isSome = true := by rw [← mm_iff, h.m, e]; rfl
    unfold mm
    rw [look_renF_all frm to k hds, look_rnF frm to k (sfF y) (cnt l1) fun hne => by rw [look_cnt_mm, hmm1, if_neg hne, if_pos rfl], look_cnt_mm, look_cnt_mm, hmm1, hmm1]
    have hdf : (look d.Files frm).map sfF = some (sfF y) := by have := h.m frm; rw [e] at this; exact this
    have hf1 : (if frm = to then mm r.Files frm else if frm = to then none else mm r.Files frm) = some (sfF y) := by
     rw [e]
     split <;> rfl
    rw [hf1]
    by_cases hk : k = to
    ·rw [if_pos hk, if_pos hk, if_pos (show (some (sfF y)).isSome = true from rfl)]
     cases hq : look d.Files frm with
     | none => rw [hq] at hds; cases hds
     | some z =>
      rw [hq] at hdf
      have hz : sfF z = sfF y := Option.some.inj hdf
      show some (sfF { z with Name := to }) = some (sfF { (sfF y) with Name := to })
      rw [← hz]
      have := sfF_sfF z
      unfold sfF at this ⊢
      congr 1
      show ({ Name := to, Data := z.Data, Synced := (clampN z.Synced z.Data.length : Int) } : api.File) = { Name := to, Data := z.Data, Synced := (clampN (clampN z.Synced z.Data.length : Int) z.Data.length : Int) }
      rw [clampN_self]
    ·rw [if_neg hk, if_neg hk]
     by_cases hk2 : k = frm
     ·rw [if_pos hk2, if_pos hk2]
     ·rw [if_neg hk2, if_neg hk2, if_neg hk]
      have := h.m k
      rw [show (if frm = to then mm r.Files k else mm r.Files k) = mm r.Files k by split <;> rfl]
      unfold mm at this ⊢
      rw [this]
      cases look r.Files k with
      | none => rfl
      | some x => show some (sfF x) = some (sfF (sfF x)); rw [sfF_sfF]
   ·obtain ⟨z, hz, rfl⟩ := List.mem_map.1 hx
    unfold rnF
    split
    ·exact ⟨y, hy, Nat.le_refl _⟩
    ·obtain ⟨w, hw, rfl⟩ := cnt_mem hz
     exact hl1mem w hw

end Go.Pu

set_option maxHeartbeats 0
set_option maxRecDepth 100000
namespace Go.Pu
open Go.Lift

theorem cnt_mem_iff {l : List api.File} {x : api.File} : x ∈ cnt l ↔ mm l x.Name = some x := by
 constructor
 ·intro h
  have := look_nodup (cnt_nodup l) h
  rwa [look_cnt_mm] at this
 ·intro h
  rw [← look_cnt_mm] at h
  exact (look_some h).1

theorem cnt_nodup' (l : List api.File) : (cnt l).Nodup := by
 have := cnt_nodup l
 exact (List.pairwise_map.1 this).imp fun {a b} h e => h (congrArg _ e)

theorem cnt_perm {d r : api.Disk} (h : Rl d r) : (cnt d.Files).Perm (cnt r.Files) :=
 (List.perm_ext_iff_of_nodup (cnt_nodup' _) (cnt_nodup' _)).2 fun x => by rw [cnt_mem_iff, cnt_mem_iff, h.m]

theorem RSame_eq {n : Nat} {d r : api.Disk} (h : Rl d r) (hd : BD n d) (hr : BD n r) (hn : n ≤ 800000) : mewsref16.Same d r = some true := by
 have hdf := hd.f
 have hrf := hr.f
 have hdt := hd.t
 have hcd := cnt_len d.Files
 have hpl := (cnt_perm h).length_eq
 have l0 : mewsref16.Same.loop0 (cnt d.Files) r ⟨0⟩ = some (.inl ()) := by
  unfold mewsref16.Same.loop0
  refine whileO_knownE ⟨0⟩ (fun i => (⟨(i : Int)⟩ : mewsref16.Same.S0)) (cnt d.Files).length (fun i hi => ?_) ?_
  ·unfold mewsref16.Same.body0
   have hin : InB (i : Int) (cnt d.Files).length := ⟨by omega, by omega⟩
   show (if (i : Int) < ((cnt d.Files).length : Int) then _ else _) = _
   rw [if_pos (by omega)]
   have hx : mm r.Files (cnt d.Files)[i].Name = some (cnt d.Files)[i] := by rw [← h.m]; exact cnt_mem_iff.1 (List.getElem_mem hi)
   show need (InB (i : Int) (cnt d.Files).length) ((mewsref16.Find r (ix (cnt d.Files) (i : Int)).Name).bind _) = _
   rw [need_eq hin, RFind_eq (by omega), Option.bind_some, ix_get hi, lookR_mm, hx]
   show ((need (InB (i : Int) (cnt d.Files).length) (some (!decide ((cnt d.Files)[i] = (cnt d.Files)[i])))).bind _) = _
   rw [need_eq hin, decide_eq_true rfl, Option.bind_some]
   show some (Sum.inl (⟨IntKind.wrap .i64 ((i : Int) + 1)⟩ : mewsref16.Same.S0)) = _
   rw [i64w (by omega) (by omega), show (i : Int) + 1 = ((i + 1 : Nat) : Int) by omega]
  ·unfold mewsref16.Same.body0
   exact if_neg (by show ¬ ((cnt d.Files).length : Int) < ((cnt d.Files).length : Int); omega)
 have l2 : mewsref16.Same.loop2 d r ⟨0⟩ = some (.inl ()) := by
  unfold mewsref16.Same.loop2
  refine whileO_knownE ⟨0⟩ (fun i => (⟨(i : Int)⟩ : mewsref16.Same.S2)) d.Faults.length (fun i hi => ?_) ?_
  ·unfold mewsref16.Same.body2
   show (if (i : Int) < (d.Faults.length : Int) then _ else _) = _
   rw [if_pos (by omega)]
   show need (InB (i : Int) d.Faults.length) (need (InB (i : Int) r.Faults.length) (if (ix d.Faults (i : Int)) = (ix r.Faults (i : Int)) then _ else _)) = _
   rw [← h.t, need_eq ⟨by omega, by omega⟩, need_eq ⟨by omega, by omega⟩, if_pos rfl]
   show some (Sum.inl (⟨IntKind.wrap .i64 ((i : Int) + 1)⟩ : mewsref16.Same.S2)) = _
   rw [i64w (by omega) (by omega), show (i : Int) + 1 = ((i + 1 : Nat) : Int) by omega]
  ·unfold mewsref16.Same.body2
   exact if_neg (by show ¬ (d.Faults.length : Int) < (d.Faults.length : Int); omega)
 unfold mewsref16.Same
 rw [Files_eq (by omega), Option.bind_some, Files_eq (by omega), Option.bind_some, hpl, if_pos rfl, ← h.t, decide_eq_true rfl]
 show ((mewsref16.Same.loop0 (cnt d.Files) r ⟨0⟩).bind _) = _
 rw [l0, Option.bind_some]
 show ((mewsref16.Same.loop2 d r ⟨0⟩).bind _) = _
 rw [l2]
 rfl

end Go.Pu
