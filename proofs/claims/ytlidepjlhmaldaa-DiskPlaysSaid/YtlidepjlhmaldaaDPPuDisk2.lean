import Derived.Test.YtlidepjlhmaldaaDPPuDisk1
set_option maxHeartbeats 0
set_option maxRecDepth 100000
namespace Go.Pu
open Go.Lift

/-! ### Remove -/
def notN (name : List UInt8) (f : api.File) : Bool := !isN name f

theorem filter_none {name : List UInt8} {l : List api.File} (h : ∀ x, x ∈ l → x.Name ≠ name) : l.filter (notN name) = l :=
 List.filter_eq_self.2 fun x hx => by unfold notN; rw [isN_not.2 (h x hx)]; rfl

theorem IndexFuncR_eq {l : List api.File} (h : l.length < 1000000000) (name : List UInt8) : slices.IndexFunc_api_File_v_disk_Remove_1 l name = some (fx l name) := by
 have h1 : slices.IndexFunc_api_File_v_disk_Remove_1.loop0 l name ⟨0⟩ = some (match idxF (isN name) l 0 with | some i => .inr (i : Int) | none => .inl ()) := by
  unfold slices.IndexFunc_api_File_v_disk_Remove_1.loop0
  refine whileO_idxE (σ := slices.IndexFunc_api_File_v_disk_Remove_1.S0) (ρ := Unit ⊕ Int) _ (fun i => ⟨(i : Int)⟩) l (isN name) (fun i => .inr (i : Int)) (.inl ()) (fun i hi => ?_) ?_
  ·have hin : InB (i : Int) l.length := ⟨by omega, by omega⟩
   unfold slices.IndexFunc_api_File_v_disk_Remove_1.body0
   show (if (i : Int) < (l.length : Int) then _ else _) = _
   rw [if_pos (by omega), need_eq hin, need_eq hin]
   show (disk.Remove_1 (ix l (i : Int)) name).bind _ = _
   rw [ix_get hi]
   unfold disk.Remove_1
   rw [Option.bind_some]
   show (if isN name l[i] = true then _ else some (Sum.inl (⟨IntKind.wrap .i64 ((i : Int) + 1)⟩ : slices.IndexFunc_api_File_v_disk_Remove_1.S0))) = _
   rw [i64w (by omega) (by omega), show (i : Int) + 1 = ((i + 1 : Nat) : Int) by omega]
   split <;> rfl
  ·unfold slices.IndexFunc_api_File_v_disk_Remove_1.body0
   exact if_neg (by show ¬ (l.length : Int) < (l.length : Int); omega)
 unfold slices.IndexFunc_api_File_v_disk_Remove_1 fx
 rw [h1, Option.bind_some]
 cases idxF (isN name) l 0 <;> rfl

theorem DeleteFunc_loop {name : List UInt8} (l : List api.File) (h : l.length < 1000000000) : ∀ (m i j : Nat) (v : List api.File), j + m = l.length → i ≤ j → v.length = l.length → v.take i = (l.take j).filter (notN name) → v.drop j = l.drop j →
  ∃ (i' : Nat) (v' : List api.File), slices.DeleteFunc_api_File_v_disk_Remove_1.loop0 name ⟨(i : Int), (j : Int), v⟩ = some ((i' : Int), v') ∧ i' ≤ l.length ∧ v'.length = l.length ∧ v'.take i' = l.filter (notN name) := by
 intro m
 induction m with
 | zero =>
  intro i j v hj hij hv h1 h2
  obtain rfl : j = l.length := by omega
  refine ⟨i, v, ?_, hij, hv, by rw [h1, List.take_length]⟩
  unfold slices.DeleteFunc_api_File_v_disk_Remove_1.loop0
  refine whileO_end ?_
  unfold slices.DeleteFunc_api_File_v_disk_Remove_1.body0
  exact if_neg (by show ¬ (l.length : Int) < (v.length : Int); omega)
 | succ m ih =>
  intro i j v hj hij hv h1 h2
  have hjl : j < l.length := by omega
  have hjv : j < v.length := by omega
  have hil : i < v.length := by omega
  have hvj : v[j] = l[j] := by
   have h3 := congrArg (fun x => x[0]?) h2
   simp only [List.getElem?_drop, Nat.add_zero, List.getElem?_eq_getElem hjv, List.getElem?_eq_getElem hjl] at h3
   exact Option.some.inj h3
  have hin : InB (j : Int) v.length := ⟨by omega, by omega⟩
  have hin2 : InB (i : Int) v.length := ⟨by omega, by omega⟩
  have htk : (l.take (j + 1)).filter (notN name) = (l.take j).filter (notN name) ++ [l[j]].filter (notN name) := by
   rw [List.take_add_one, List.getElem?_eq_getElem hjl, ← List.filter_append]; rfl
  have hdr : v.drop (j + 1) = l.drop (j + 1) := by rw [← List.drop_drop, ← List.drop_drop, h2]
  by_cases hq : isN name l[j] = true
  ·obtain ⟨i', v', e, h3⟩ := ih i (j + 1) v (by omega) (by omega) hv (by rw [htk, h1]; simp [notN, hq]) hdr
   refine ⟨i', v', ?_, h3⟩
   rw [← e]
   unfold slices.DeleteFunc_api_File_v_disk_Remove_1.loop0
   refine whileO_stp ?_
   unfold slices.DeleteFunc_api_File_v_disk_Remove_1.body0
   show (if (j : Int) < (v.length : Int) then _ else _) = _
   rw [if_pos (by omega), need_eq hin, need_eq hin]
   show ((disk.Remove_1 (ix v (j : Int)) name).bind _).bind _ = _
   rw [ix_get hjv, hvj]
   unfold disk.Remove_1
   rw [Option.bind_some, show decide (l[j].Name = name) = true from hq, if_neg (by decide), Option.bind_some]
   show some (Sum.inl (⟨(i : Int), IntKind.wrap .i64 ((j : Int) + 1), v⟩ : slices.DeleteFunc_api_File_v_disk_Remove_1.S0)) = _
   rw [i64w (by omega) (by omega)]
   rfl
  ·have hq' : isN name l[j] = false := by simpa using hq
   have hset : (v.set i l[j]).take (i + 1) = (l.take (j + 1)).filter (notN name) := by
    rw [htk, ← h1, List.take_add_one, List.getElem?_set_self hil, List.take_set_of_le (Nat.le_refl _)]
    simp [notN, hq']
   obtain ⟨i', v', e, h3⟩ := ih (i + 1) (j + 1) (v.set i l[j]) (by omega) (by omega) (by rw [List.length_set]; exact hv) hset (by rw [List.drop_set_of_lt (by omega), hdr])
   refine ⟨i', v', ?_, h3⟩
   rw [← e]
   unfold slices.DeleteFunc_api_File_v_disk_Remove_1.loop0
   refine whileO_stp ?_
   unfold slices.DeleteFunc_api_File_v_disk_Remove_1.body0
   show (if (j : Int) < (v.length : Int) then _ else _) = _
   rw [if_pos (by omega), need_eq hin, need_eq hin]
   show ((disk.Remove_1 (ix v (j : Int)) name).bind _).bind _ = _
   rw [ix_get hjv, hvj]
   unfold disk.Remove_1
   rw [Option.bind_some, show decide (l[j].Name = name) = false from hq', if_pos (by decide), need_eq hin2, need_eq hin2, Option.bind_some]
   show some (Sum.inl (⟨IntKind.wrap .i64 ((i : Int) + 1), IntKind.wrap .i64 ((j : Int) + 1), upd v (i : Int) l[j]⟩ : slices.DeleteFunc_api_File_v_disk_Remove_1.S0)) = _
   rw [i64w (by omega) (by omega), i64w (by omega) (by omega)]
   rfl

theorem Remove_eq {d : api.Disk} (h : DSz d) (name : List UInt8) : disk.Remove d name = some { d with Files := d.Files.filter (notN name) } := by
 have hF := h.f
 have key : slices.DeleteFunc_api_File_v_disk_Remove_1 d.Files name = some (d.Files.filter (notN name)) := by
  unfold slices.DeleteFunc_api_File_v_disk_Remove_1
  rw [IndexFuncR_eq hF, Option.bind_some]
  rcases fx_cases d.Files name with ⟨h1, h2⟩ | ⟨a, x, b, h1, h2, h3, h4⟩
  ·rw [h1, if_pos rfl, filter_none h2]
  ·have hal : a.length < d.Files.length := by
    have := congrArg List.length h1
    simp only [List.length_append, List.length_cons] at this
    omega
   rw [h2, if_neg (by omega), i64w (by omega) (by omega)]
   have ht1 : d.Files.take (a.length + 1) = a ++ [x] := by rw [h1, show a ++ x :: b = (a ++ [x]) ++ b by simp, List.take_left' (by simp)]
   have ht0 : d.Files.take a.length = a := by rw [h1]; simp
   obtain ⟨i', v', e, h5, h6, h7⟩ := DeleteFunc_loop (name := name) d.Files hF (d.Files.length - (a.length + 1)) a.length (a.length + 1) d.Files (by omega) (by omega) rfl (by
    have hx : List.filter (notN name) [x] = [] := by simp [notN, isN, h3]
    rw [ht0, ht1, List.filter_append, filter_none h4, hx, List.append_nil]) rfl
   rw [show ((a.length : Int) + 1) = ((a.length + 1 : Nat) : Int) by omega, e, Option.bind_some]
   dsimp only
   have hc : ∀ z, (clrL v' (Int.toNat (i' : Int)) (Int.toNat (v'.length : Int)) z).length = v'.length := fun z => clrL_length (by omega) (by omega)
   rw [need_eq ⟨by omega, by omega, by omega⟩, need_eq ⟨by omega, by omega, by omega⟩, need_eq ⟨by omega, by omega, by rw [hc]; omega⟩, need_eq (by rw [hc]; omega), Int.toNat_natCast, clr_take _ _ _ _ (by omega), h7]
 unfold disk.Remove
 rw [own_eq h, Option.bind_some, key, Option.bind_some]

theorem look_filter {q : api.File → Bool} {k : List UInt8} (l : List api.File) (h : ∀ f, f.Name = k → q f = true) : look (l.filter q) k = look l k := by
 induction l with
 | nil => rfl
 | cons x l ih =>
  unfold look at ih ⊢
  rw [List.filter_cons, List.find?_cons]
  by_cases hk : x.Name = k
  ·rw [if_pos (h x hk), List.find?_cons, isN_iff.2 hk]
  ·rw [isN_not.2 hk, ← ih]
   split
   ·rw [List.find?_cons, isN_not.2 hk]
   ·rfl

/-! ### Rename -/
def renQ (frm to : List UInt8) (f : api.File) : Bool := !isN to f && !isN frm f
/-- The first file of a name has another one's; what had that, or that, is gone. -/
def renF (frm to : List UInt8) : List api.File → List api.File
 | [] => []
 | x :: xs => if isN frm x then { x with Name := to } :: xs.filter (renQ frm to) else if isN to x then renF frm to xs else x :: renF frm to xs

theorem renF_mid {frm to : List UInt8} : ∀ {a b : List api.File} {x : api.File}, x.Name = frm → (∀ y, y ∈ a → y.Name ≠ frm) → renF frm to (a ++ x :: b) = a.filter (renQ frm to) ++ { x with Name := to } :: b.filter (renQ frm to)
 | [], b, x, hx, _ => by
  show (if isN frm x = true then { x with Name := to } :: b.filter (renQ frm to) else _) = _
  rw [if_pos (isN_iff.2 hx)]; rfl
 | y :: a, b, x, hx, h => by
  have ih := renF_mid (to := to) (b := b) hx fun z hz => h z (List.mem_cons_of_mem _ hz)
  have hy := isN_not.2 (h y (List.mem_cons_self ..))
  show (if isN frm y = true then _ else if isN to y = true then renF frm to (a ++ x :: b) else y :: renF frm to (a ++ x :: b)) = _
  rw [if_neg (by rw [hy]; decide), ih, List.filter_cons]
  unfold renQ
  rw [hy]
  cases isN to y <;> rfl

theorem Rename_eq {d : api.Disk} (h : DSz d) (frm to : List UInt8) : disk.Rename d frm to = some (
  if (look d.Files frm).isSome then
   if (takeF frm 3 d.Faults).1.isSome then ({ d with Faults := (takeF frm 3 d.Faults).2 }, 15) else ({ Files := renF frm to d.Files, Faults := (takeF frm 3 d.Faults).2 }, 0)
  else (d, 8)) := by
 have hF := h.f
 unfold disk.Rename
 rw [own_eq h, Option.bind_some, find_v_eq hF, Option.bind_some]
 rcases fx_cases d.Files frm with ⟨h1, h2⟩ | ⟨a, x, b, h1, h2, h3, h4⟩
 ·rw [h1, if_pos (by decide), look_none h2]
  rfl
 ·have hl : look d.Files frm = some x := by rw [h1]; exact look_mid h3 h4
  have hin : InB (a.length : Int) d.Files.length := by rw [h1]; exact inb_mid rfl
  have hix : ix d.Files (a.length : Int) = x := by rw [h1]; exact ix_mid rfl
  have hal : a.length < d.Files.length := by rw [h1]; simp
  rw [h2, if_neg (by omega), meets_v_eq h, Option.bind_some, hl, if_pos (show (some x).isSome = true from rfl)]
  have loop : ∀ (m j : Nat) (v : List api.File), j + m = d.Files.length → v.length ≤ j → disk.Rename.loop0 d (a.length : Int) to frm ⟨(j : Int), v⟩ = some (v ++ (if j ≤ a.length then (a.drop j).filter (renQ frm to) ++ { x with Name := to } :: b.filter (renQ frm to) else (d.Files.drop j).filter (renQ frm to))) := by
   intro m
   induction m with
   | zero =>
    intro j v hj hv
    obtain rfl : j = d.Files.length := by omega
    unfold disk.Rename.loop0
    refine whileO_end ?_
    unfold disk.Rename.body0
    show (if (d.Files.length : Int) < (d.Files.length : Int) then _ else some (Sum.inr v)) = _
    rw [if_neg (by omega), if_neg (by omega), List.drop_length, List.filter_nil, List.append_nil]
   | succ m ih =>
    intro j v hj hv
    have hjl : j < d.Files.length := by omega
    have hinj : InB (j : Int) d.Files.length := ⟨by omega, by omega⟩
    unfold disk.Rename.loop0
    by_cases hja : j = a.length
    ·have hb : d.Files.drop (j + 1) = b := by rw [h1, hja, List.drop_append]; simp
     have := ih (j + 1) (v ++ [{ x with Name := to }]) (by omega) (by rw [List.length_append, List.length_singleton]; omega)
     rw [if_neg (by omega), hb] at this
     unfold disk.Rename.loop0 at this
     refine whileO_next (s' := ⟨((j + 1 : Nat) : Int), v ++ [{ x with Name := to }]⟩) ?_ (this.trans ?_)
     ·unfold disk.Rename.body0
      show (if (j : Int) < (d.Files.length : Int) then Option.bind (need (InB (j : Int) d.Files.length) (need (InB (j : Int) d.Files.length) (if (j : Int) = (a.length : Int) then need ((v.length + 1) * 40 ≤ 140737488355328) (some (v ++ [{ (ix d.Files (a.length : Int)) with Name := to }])) else _))) _ else _) = _
      rw [if_pos (by omega), need_eq hinj, need_eq hinj, if_pos (by omega), need_eq (by omega), hix, Option.bind_some]
      show some (Sum.inl (⟨IntKind.wrap .i64 ((j : Int) + 1), v ++ [{ x with Name := to }]⟩ : disk.Rename.S0)) = _
      rw [i64w (by omega) (by omega)]
      rfl
     ·rw [if_pos (by omega), hja, List.drop_length, List.filter_nil, List.nil_append, List.append_assoc]
      rfl
    ·have hstep : ∀ v', (v' = if renQ frm to d.Files[j] then v ++ [d.Files[j]] else v) → disk.Rename.body0 d (a.length : Int) to frm ⟨(j : Int), v⟩ = some (.inl ⟨((j + 1 : Nat) : Int), v'⟩) := by
      intro v' hv'
      unfold disk.Rename.body0
      show (if (j : Int) < (d.Files.length : Int) then Option.bind (need (InB (j : Int) d.Files.length) (need (InB (j : Int) d.Files.length) (if (j : Int) = (a.length : Int) then _ else letO (if (ix d.Files (j : Int)).Name = to then false else (!decide ((ix d.Files (j : Int)).Name = frm))) fun s461 => if s461 = true then need ((v.length + 1) * 40 ≤ 140737488355328) (some (v ++ [ix d.Files (j : Int)])) else some v))) _ else _) = _
      rw [if_pos (by omega), need_eq hinj, need_eq hinj, if_neg (by omega), ix_get hjl]
      have e1 : (if d.Files[j].Name = to then false else (!decide (d.Files[j].Name = frm))) = renQ frm to d.Files[j] := by
       unfold renQ isN
       by_cases hh : d.Files[j].Name = to
       ·rw [if_pos hh, decide_eq_true hh]; rfl
       ·rw [if_neg hh, decide_eq_false hh]; rfl
      rw [e1]
      show Option.bind (if renQ frm to d.Files[j] = true then need ((v.length + 1) * 40 ≤ 140737488355328) (some (v ++ [d.Files[j]])) else some v) _ = _
      rw [need_eq (by omega)]
      have e2 : (if renQ frm to d.Files[j] = true then some (v ++ [d.Files[j]]) else some v) = some v' := by rw [hv']; split <;> rfl
      rw [e2, Option.bind_some]
      show some (Sum.inl (⟨IntKind.wrap .i64 ((j : Int) + 1), v'⟩ : disk.Rename.S0)) = _
      rw [i64w (by omega) (by omega)]
      rfl
     have := ih (j + 1) (if renQ frm to d.Files[j] then v ++ [d.Files[j]] else v) (by omega) (by
      split
      ·rw [List.length_append, List.length_singleton]; omega
      ·omega)
     unfold disk.Rename.loop0 at this
     refine whileO_next (hstep _ rfl) (this.trans ?_)
     congr 1
     by_cases hlt : j < a.length
     ·have e3 : d.Files[j] = a[j] := by
       have : d.Files[j]? = a[j]? := by rw [h1, List.getElem?_append_left hlt]
       rw [List.getElem?_eq_getElem hjl, List.getElem?_eq_getElem hlt] at this
       exact Option.some.inj this
      rw [if_pos (show j + 1 ≤ a.length by omega), if_pos (show j ≤ a.length by omega), e3, List.drop_eq_getElem_cons hlt, List.filter_cons]
      split <;> simp
     ·rw [if_neg (show ¬ j + 1 ≤ a.length by omega), if_neg (show ¬ j ≤ a.length by omega), List.drop_eq_getElem_cons hjl, List.filter_cons]
      split <;> simp
  have hloop := loop d.Files.length 0 [] (by omega) (Nat.le_refl _)
  rw [if_pos (Nat.zero_le _), List.drop_zero, List.nil_append] at hloop
  show (if (takeF frm 3 d.Faults).1.isSome = true then some (({ d with Faults := (takeF frm 3 d.Faults).2 } : api.Disk), (15 : Int)) else need (InB (a.length : Int) d.Files.length) (need (InB (a.length : Int) d.Files.length) ((disk.Rename.loop0 d (a.length : Int) to frm ⟨((0 : Nat) : Int), []⟩).bind fun s358 => some (({ Files := s358, Faults := (takeF frm 3 d.Faults).2 } : api.Disk), (0 : Int))))) = _
  rw [need_eq hin, need_eq hin, hloop, Option.bind_some]
  have e4 : renF frm to d.Files = a.filter (renQ frm to) ++ { x with Name := to } :: b.filter (renQ frm to) := by rw [h1]; exact renF_mid h3 h4
  rw [e4]
  split <;> rfl

theorem look_renF {frm to k : List UInt8} (h1 : k ≠ frm) (h2 : k ≠ to) (l : List api.File) : look (renF frm to l) k = look l k := by
 induction l with
 | nil => rfl
 | cons x l ih =>
  have hq : ∀ f : api.File, f.Name = k → renQ frm to f = true := fun f hf => by
   unfold renQ
   rw [isN_not.2 (by rw [hf]; exact h2), isN_not.2 (by rw [hf]; exact h1)]
   rfl
  have hl := look_filter l hq
  unfold look at ih hl ⊢
  rw [List.find?_cons]
  show List.find? (isN k) (if isN frm x = true then { x with Name := to } :: l.filter (renQ frm to) else if isN to x = true then renF frm to l else x :: renF frm to l) = _
  by_cases hx : isN frm x = true
  ·rw [if_pos hx, List.find?_cons, isN_not.2 (show ({ x with Name := to } : api.File).Name ≠ k from fun e => h2 e.symm), isN_not.2 (by rw [isN_iff.1 hx]; exact fun e => h1 e.symm)]
   exact hl
  ·rw [if_neg hx]
   by_cases ht : isN to x = true
   ·rw [if_pos ht, isN_not.2 (by rw [isN_iff.1 ht]; exact fun e => h2 e.symm)]
    exact ih
   ·rw [if_neg ht, List.find?_cons]
    cases isN k x
    ·exact ih
    ·rfl

end Go.Pu
