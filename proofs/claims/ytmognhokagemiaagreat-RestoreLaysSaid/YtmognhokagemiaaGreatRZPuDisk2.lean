import Derived.Test.YtmognhokagemiaaGreatRZPuStrL0
set_option maxHeartbeats 0
set_option maxRecDepth 100000
namespace Go.Pu
open Go.Lift

/-! ### Remove -/
def notN (name : List UInt8) (f : api.File) : Bool := !isN name f

theorem filter_none {name : List UInt8} {l : List api.File} (h : ∀ x, x ∈ l → x.Name ≠ name) : l.filter (notN name) = l :=
 List.filter_eq_self.2 fun x hx => by unfold notN; rw [isN_not.2 (h x hx)]; rfl

theorem IndexFuncR_eq {l : List api.File} (h : l.length < 1000000000) (name : List UInt8) : slices.IndexFunc_api_File_v_disk_Remove_1 l name = some (fx l name) := by
 have h1 : slices.IndexFunc_api_File_v_disk_Remove_1.loop0 l name ⟨0⟩ = some (match idxF (isN name) l 0 with | some i => .inr (i : Int) | none => .inl ()) := by
  unfold slices.IndexFunc_api_File_v_disk_Remove_1.loop0
  refine whileO_idxE (σ := slices.IndexFunc_api_File_v_disk_Remove_1.S0) (ρ := Unit ⊕ Int) _ (fun i => ⟨(i : Int)⟩) l (isN name) (fun i => .inr (i : Int)) (.inl ()) (fun i hi => ?_) ?_
  ·have hin : InB (i : Int) l.length := ⟨by omega, by omega⟩
   unfold slices.IndexFunc_api_File_v_disk_Remove_1.body0
   show (if (i : Int) < (l.length : Int) then _ else _) = _
   rw [if_pos (by omega), need_eq hin, need_eq hin]
   show (disk.Remove_1 (ix l (i : Int)) name).bind _ = _
   rw [ix_get hi]
   unfold disk.Remove_1
   rw [Option.bind_some]
   show (if isN name l[i] = true then _ else some (Sum.inl (⟨IntKind.wrap .i64 ((i : Int) + 1)⟩ : slices.IndexFunc_api_File_v_disk_Remove_1.S0))) = _
   rw [i64w (by omega) (by omega), show (i : Int) + 1 = ((i + 1 : Nat) : Int) by omega]
   split <;> rfl
  ·unfold slices.IndexFunc_api_File_v_disk_Remove_1.body0
   exact if_neg (by show ¬ (l.length : Int) < (l.length : Int); omega)
 unfold slices.IndexFunc_api_File_v_disk_Remove_1 fx
 rw [h1, Option.bind_some]
 cases idxF (isN name) l 0 <;> rfl

theorem DeleteFunc_loop {name : List UInt8} (l : List api.File) (h : l.length < 1000000000) : ∀ (m i j : Nat) (v : List api.File), j + m = l.length → i ≤ j → v.length = l.length → v.take i = (l.take j).filter (notN name) → v.drop j = l.drop j →
  ∃ (i' : Nat) (v' : List api.File), slices.DeleteFunc_api_File_v_disk_Remove_1.loop0 name ⟨(i : Int), (j : Int), v⟩ = some ((i' : Int), v') ∧ i' ≤ l.length ∧ v'.length = l.length ∧ v'.take i' = l.filter (notN name) := by
 intro m
 induction m with
 | zero =>
  intro i j v hj hij hv h1 h2
  obtain rfl : j = l.length := by omega
  refine ⟨i, v, ?_, hij, hv, by rw [h1, List.take_length]⟩
  unfold slices.DeleteFunc_api_File_v_disk_Remove_1.loop0
  refine whileO_end ?_
  unfold slices.DeleteFunc_api_File_v_disk_Remove_1.body0
  exact if_neg (by show ¬ (l.length : Int) < (v.length : Int); omega)
 | succ m ih =>
  intro i j v hj hij hv h1 h2
  have hjl : j < l.length := by omega
  have hjv : j < v.length := by omega
  have hil : i < v.length := by omega
  have hvj : v[j] = l[j] := by
   have h3 := congrArg (fun x => x[0]?) h2
   simp only [List.getElem?_drop, Nat.add_zero, List.getElem?_eq_getElem hjv, List.getElem?_eq_getElem hjl] at h3
   exact Option.some.inj h3
  have hin : InB (j : Int) v.length := ⟨by omega, by omega⟩
  have hin2 : InB (i : Int) v.length := ⟨by omega, by omega⟩
  have htk : (l.take (j + 1)).filter (notN name) = (l.take j).filter (notN name) ++ [l[j]].filter (notN name) := by
   rw [List.take_add_one, List.getElem?_eq_getElem hjl, ← List.filter_append]; rfl
  have hdr : v.drop (j + 1) = l.drop (j + 1) := by rw [← List.drop_drop, ← List.drop_drop, h2]
  by_cases hq : isN name l[j] = true
  ·obtain ⟨i', v', e, h3⟩ := ih i (j + 1) v (by omega) (by omega) hv (by rw [htk, h1]; simp [notN, hq]) hdr
   refine ⟨i', v', ?_, h3⟩
   rw [← e]
   unfold slices.DeleteFunc_api_File_v_disk_Remove_1.loop0
   refine whileO_stp ?_
   unfold slices.DeleteFunc_api_File_v_disk_Remove_1.body0
   show (if (j : Int) < (v.length : Int) then _ else _) = _
   rw [if_pos (by omega), need_eq hin, need_eq hin]
   show ((disk.Remove_1 (ix v (j : Int)) name).bind _).bind _ = _
   rw [ix_get hjv, hvj]
   unfold disk.Remove_1
   rw [Option.bind_some, show decide (l[j].Name = name) = true from hq, if_neg (by decide), Option.bind_some]
   show some (Sum.inl (⟨(i : Int), IntKind.wrap .i64 ((j : Int) + 1), v⟩ : slices.DeleteFunc_api_File_v_disk_Remove_1.S0)) = _
   rw [i64w (by omega) (by omega)]
   rfl
  ·have hq' : isN name l[j] = false := by simpa using hq
   have hset : (v.set i l[j]).take (i + 1) = (l.take (j + 1)).filter (notN name) := by
    rw [htk, ← h1, List.take_add_one, List.getElem?_set_self hil, List.take_set_of_le (Nat.le_refl _)]
    simp [notN, hq']
   obtain ⟨i', v', e, h3⟩ := ih (i + 1) (j + 1) (v.set i l[j]) (by omega) (by omega) (by rw [List.length_set]; exact hv) hset (by rw [List.drop_set_of_lt (by omega), hdr])
   refine ⟨i', v', ?_, h3⟩
   rw [← e]
   unfold slices.DeleteFunc_api_File_v_disk_Remove_1.loop0
   refine whileO_stp ?_
   unfold slices.DeleteFunc_api_File_v_disk_Remove_1.body0
   show (if (j : Int) < (v.length : Int) then _ else _) = _
   rw [if_pos (by omega), need_eq hin, need_eq hin]
   show ((disk.Remove_1 (ix v (j : Int)) name).bind _).bind _ = _
   rw [ix_get hjv, hvj]
   unfold disk.Remove_1
   rw [Option.bind_some, show decide (l[j].Name = name) = false from hq', if_pos (by decide), need_eq hin2, need_eq hin2, Option.bind_some]
   show some (Sum.inl (⟨IntKind.wrap .i64 ((i : Int) + 1), IntKind.wrap .i64 ((j : Int) + 1), upd v (i : Int) l[j]⟩ : slices.DeleteFunc_api_File_v_disk_Remove_1.S0)) = _
   rw [i64w (by omega) (by omega), i64w (by omega) (by omega)]
   rfl

theorem Remove_eq {d : api.Disk} (h : DSz d) (name : List UInt8) : disk.Remove d name = some { d with Files := d.Files.filter (notN name) } := by
 have hF := h.f
 have key : slices.DeleteFunc_api_File_v_disk_Remove_1 d.Files name = some (d.Files.filter (notN name)) := by
  unfold slices.DeleteFunc_api_File_v_disk_Remove_1
  rw [IndexFuncR_eq hF, Option.bind_some]
  rcases fx_cases d.Files name with ⟨h1, h2⟩ | ⟨a, x, b, h1, h2, h3, h4⟩
  ·rw [h1, if_pos rfl, filter_none h2]
  ·have hal : a.length < d.Files.length := by
    have := congrArg List.length h1
    simp only [List.length_append, List.length_cons] at this
    omega
   rw [h2, if_neg (by omega), i64w (by omega) (by omega)]
   have ht1 : d.Files.take (a.length + 1) = a ++ [x] := by rw [h1, show a ++ x :: b = (a ++ [x]) ++ b by simp, List.take_left' (by simp)]
   have ht0 : d.Files.take a.length = a := by rw [h1]; simp
   obtain ⟨i', v', e, h5, h6, h7⟩ := DeleteFunc_loop (name := name) d.Files hF (d.Files.length - (a.length + 1)) a.length (a.length + 1) d.Files (by omega) (by omega) rfl (by
    have hx : List.filter (notN name) [x] = [] := by simp [notN, isN, h3]
    rw [ht0, ht1, List.filter_append, filter_none h4, hx, List.append_nil]) rfl
   rw [show ((a.length : Int) + 1) = ((a.length + 1 : Nat) : Int) by omega, e, Option.bind_some]
   dsimp only
   have hc : ∀ z, (clrL v' (Int.toNat (i' : Int)) (Int.toNat (v'.length : Int)) z).length = v'.length := fun z => clrL_length (by omega) (by omega)
   rw [need_eq ⟨by omega, by omega, by omega⟩, need_eq ⟨by omega, by omega, by omega⟩, need_eq ⟨by omega, by omega, by rw [hc]; omega⟩, need_eq (by rw [hc]; omega), Int.toNat_natCast, clr_take _ _ _ _ (by omega), h7]
 unfold disk.Remove
 rw [own_eq h, Option.bind_some, key, Option.bind_some]

theorem look_filter {q : api.File → Bool} {k : List UInt8} (l : List api.File) (h : ∀ f, f.Name = k → q f = true) : look (l.filter q) k = look l k := by
 induction l with
 | nil => rfl
 | cons x l ih =>
  unfold look at ih ⊢
  rw [List.filter_cons, List.find?_cons]
  by_cases hk : x.Name = k
  ·rw [if_pos (h x hk), List.find?_cons, isN_iff.2 hk]
  ·rw [isN_not.2 hk, ← ih]
   split
   ·rw [List.find?_cons, isN_not.2 hk]
   ·rfl

/-! ### Rename -/
def renQ (frm to : List UInt8) (f : api.File) : Bool := !isN to f && !isN frm f
/-- The first file of a name has another one's; what had that, or that, is gone. -/
def renF (frm to : List UInt8) : List api.File → List api.File
 | [] => []
 | x :: xs => if isN frm x then { x with Name := to } :: xs.filter (renQ frm to) else if isN to x then renF frm to xs else x :: renF frm to xs

theorem renF_mid {frm to : List UInt8} : ∀ {a b : List api.File} {x : api.File}, x.Name = frm → (∀ y, y ∈ a → y.Name ≠ frm) → renF frm to (a ++ x :: b) = a.filter (renQ frm to) ++ { x with Name := to } :: b.filter (renQ frm to)
 | [], b, x, hx, _ => by
  show (if isN frm x = true then { x with Name := to } :: b.filter (renQ frm to) else _) = _
  rw [if_pos (isN_iff.2 hx)]; rfl
 | y :: a, b, x, hx, h => by
  have ih := renF_mid (to := to) (b := b) hx fun z hz => h z (List.mem_cons_of_mem _ hz)
  have hy := isN_not.2 (h y (List.mem_cons_self ..))
  show (if isN frm y = true then _ else if isN to y = true then renF frm to (a ++ x :: b) else y :: renF frm to (a ++ x :: b)) = _
  rw [if_neg (by rw [hy]; decide), ih, List.filter_cons]
  unfold renQ
  rw [hy]
  cases isN to y <;> rfl

theorem look_renF {frm to k : List UInt8} (h1 : k ≠ frm) (h2 : k ≠ to) (l : List api.File) : look (renF frm to l) k = look l k := by
 induction l with
 | nil => rfl
 | cons x l ih =>
  have hq : ∀ f : api.File, f.Name = k → renQ frm to f = true := fun f hf => by
   unfold renQ
   rw [isN_not.2 (by rw [hf]; exact h2), isN_not.2 (by rw [hf]; exact h1)]
   rfl
  have hl := look_filter l hq
  unfold look at ih hl ⊢
  rw [List.find?_cons]
  show List.find? (isN k) (if isN frm x = true then { x with Name := to } :: l.filter (renQ frm to) else if isN to x = true then renF frm to l else x :: renF frm to l) = _
  by_cases hx : isN frm x = true
  ·rw [if_pos hx, List.find?_cons, isN_not.2 (show ({ x with Name := to } : api.File).Name ≠ k from fun e => h2 e.symm), isN_not.2 (by rw [isN_iff.1 hx]; exact fun e => h1 e.symm)]
   exact hl
  ·rw [if_neg hx]
   by_cases ht : isN to x = true
   ·rw [if_pos ht, isN_not.2 (by rw [isN_iff.1 ht]; exact fun e => h2 e.symm)]
    exact ih
   ·rw [if_neg ht, List.find?_cons]
    cases isN k x
    ·exact ih
    ·rfl

end Go.Pu

set_option maxHeartbeats 0
set_option maxRecDepth 100000
namespace Go.Pu
open Go.Lift

theorem Write_eq {d : api.Disk} (h : DSz d) (name s : List UInt8) (hs : s.length < 2305843009213693952) :
  disk.Write d name s = some ({ Files := putF d.Files name (wrS (takeF name 1 d.Faults).1 s), Faults := (takeF name 1 d.Faults).2 }, ((wrS (takeF name 1 d.Faults).1 s).length : Int), wrE (takeF name 1 d.Faults).1) := by
 have hF := h.f
 unfold disk.Write
 rw [own_eq h, Option.bind_some]
 show (((disk.meets_v name 1 d).bind _).bind _) = _
 rw [meets_v_eq h, Option.bind_some]
 generalize hq : takeF name 1 d.Faults = q
 obtain ⟨o, fl⟩ := q
 have hmid : (if o.isSome = true then need (InR 0 (if (s.length : Int) < (if (o.getD ⟨[], 0, 0⟩).Short < 0 then 0 else (o.getD ⟨[], 0, 0⟩).Short) then (s.length : Int) else (if (o.getD ⟨[], 0, 0⟩).Short < 0 then 0 else (o.getD ⟨[], 0, 0⟩).Short)) s.length) (some (sub s 0 (if (s.length : Int) < (if (o.getD ⟨[], 0, 0⟩).Short < 0 then 0 else (o.getD ⟨[], 0, 0⟩).Short) then (s.length : Int) else (if (o.getD ⟨[], 0, 0⟩).Short < 0 then 0 else (o.getD ⟨[], 0, 0⟩).Short)), (15 : Int), fl)) else some (s, (0 : Int), fl)) = some (wrS o s, wrE o, fl) := by
  cases o with
  | none => rfl
  | some f =>
   have := clampN_le f.Short s.length
   rw [if_pos (show (some f).isSome = true from rfl)]
   show need (InR 0 (if (s.length : Int) < (if f.Short < 0 then 0 else f.Short) then (s.length : Int) else (if f.Short < 0 then 0 else f.Short)) s.length) (some (sub s 0 (if (s.length : Int) < (if f.Short < 0 then 0 else f.Short) then (s.length : Int) else (if f.Short < 0 then 0 else f.Short)), (15 : Int), fl)) = _
   rw [clampN_eq, need_eq ⟨by omega, by omega, by omega⟩, sub0]
   rfl
 show ((if o.isSome = true then need (InR 0 (if (s.length : Int) < (if (o.getD ⟨[], 0, 0⟩).Short < 0 then 0 else (o.getD ⟨[], 0, 0⟩).Short) then (s.length : Int) else (if (o.getD ⟨[], 0, 0⟩).Short < 0 then 0 else (o.getD ⟨[], 0, 0⟩).Short)) s.length) (some (sub s 0 (if (s.length : Int) < (if (o.getD ⟨[], 0, 0⟩).Short < 0 then 0 else (o.getD ⟨[], 0, 0⟩).Short) then (s.length : Int) else (if (o.getD ⟨[], 0, 0⟩).Short < 0 then 0 else (o.getD ⟨[], 0, 0⟩).Short)), (15 : Int), fl)) else some (s, (0 : Int), fl)).bind _) = _
 rw [hmid, Option.bind_some]
 have hsl := wrS_le o s
 show ((disk.find_v { d with Faults := fl } name).bind _) = _
 rw [find_v_eq (d := { d with Faults := fl }) hF, Option.bind_some]
 show Option.bind (if fx d.Files name < 0 then need ((d.Files.length + 1) * 40 ≤ 140737488355328) (some ((d.Files.length : Int), d.Files ++ [({ Name := name, Data := [], Synced := 0 } : api.File)])) else some (fx d.Files name, d.Files)) _ = _
 have fin : ∀ (a b : List api.File) (x : api.File) (i : Int), i = (a.length : Int) → x.Data.length < 2305843009213693952 → (some (i, a ++ x :: b) : Option (Int × List api.File)).bind (fun s61 =>
   need (InB s61.1 s61.2.length) <| need (InB s61.1 s61.2.length) <| (disk.safe (ix s61.2 s61.1)).bind fun r70 => need (InB s61.1 s61.2.length) <| need (InB s61.1 (upd s61.2 s61.1 { (ix s61.2 s61.1) with Synced := r70 }).length) <|
   need ((ix (upd s61.2 s61.1 { (ix s61.2 s61.1) with Synced := r70 }) s61.1).Data.length + (wrS o s).length ≤ 9223372036854775807) <| need (InB s61.1 (upd s61.2 s61.1 { (ix s61.2 s61.1) with Synced := r70 }).length) <|
   some (({ Files := upd (upd s61.2 s61.1 { (ix s61.2 s61.1) with Synced := r70 }) s61.1 ({ Name := (ix (upd s61.2 s61.1 { (ix s61.2 s61.1) with Synced := r70 }) s61.1).Name, Data := (ix (upd s61.2 s61.1 { (ix s61.2 s61.1) with Synced := r70 }) s61.1).Data ++ wrS o s, Synced := (ix (upd s61.2 s61.1 { (ix s61.2 s61.1) with Synced := r70 }) s61.1).Synced } : api.File), Faults := fl } : api.Disk), ((wrS o s).length : Int), wrE o)) =
   some (({ Files := a ++ wrF (wrS o s) x :: b, Faults := fl } : api.Disk), ((wrS o s).length : Int), wrE o) := by
  intro a b x i hi hx
  rw [Option.bind_some]
  simp only [ix_mid hi, upd_mid hi]
  rw [need_eq (inb_mid hi), need_eq (inb_mid hi), safe_eq, Option.bind_some]
  rw [need_eq (inb_mid hi), need_eq (inb_mid hi), need_eq (by omega), need_eq (inb_mid hi)]
  rfl
 rcases fx_cases d.Files name with ⟨h1, h2⟩ | ⟨a, x, b, h1, h2, h3, h4⟩
 ·rw [h1, if_pos (by decide), need_eq (by omega)]
  have := fin d.Files [] { Name := name, Data := [], Synced := 0 } _ rfl (by simp)
  refine this.trans ?_
  unfold putF
  rw [look_none h2]
  rfl
 ·rw [h2, if_neg (by omega)]
  have := fin a b x _ rfl (h.b x (by rw [h1]; simp))
  rw [← h1] at this
  refine this.trans ?_
  unfold putF
  rw [h1, look_mid h3 h4, if_pos (show (some x).isSome = true from rfl), modF_mid h3 h4]

theorem Rename_eq {d : api.Disk} (h : DSz d) (frm to : List UInt8) : disk.Rename d frm to = some (
  if (look d.Files frm).isSome then
   if (takeF frm 3 d.Faults).1.isSome then ({ d with Faults := (takeF frm 3 d.Faults).2 }, 15) else ({ Files := renF frm to d.Files, Faults := (takeF frm 3 d.Faults).2 }, 0)
  else (d, 8)) := by
 have hF := h.f
 unfold disk.Rename
 rw [own_eq h, Option.bind_some, find_v_eq hF, Option.bind_some]
 rcases fx_cases d.Files frm with ⟨h1, h2⟩ | ⟨a, x, b, h1, h2, h3, h4⟩
 ·rw [h1, if_pos (by decide), look_none h2]
  rfl
 ·have hl : look d.Files frm = some x := by rw [h1]; exact look_mid h3 h4
  have hin : InB (a.length : Int) d.Files.length := by rw [h1]; exact inb_mid rfl
  have hix : ix d.Files (a.length : Int) = x := by rw [h1]; exact ix_mid rfl
  have hal : a.length < d.Files.length := by rw [h1]; simp
  rw [h2, if_neg (by omega), meets_v_eq h, Option.bind_some, hl, if_pos (show (some x).isSome = true from rfl)]
  have loop : ∀ (m j : Nat) (v : List api.File), j + m = d.Files.length → v.length ≤ j → disk.Rename.loop0 d (a.length : Int) to frm ⟨(j : Int), v⟩ = some (v ++ (if j ≤ a.length then (a.drop j).filter (renQ frm to) ++ { x with Name := to } :: b.filter (renQ frm to) else (d.Files.drop j).filter (renQ frm to))) := by
   intro m
   induction m with
   | zero =>
    intro j v hj hv
    obtain rfl : j = d.Files.length := by omega
    unfold disk.Rename.loop0
    refine whileO_end ?_
    unfold disk.Rename.body0
    show (if (d.Files.length : Int) < (d.Files.length : Int) then _ else some (Sum.inr v)) = _
    rw [if_neg (by omega), if_neg (by omega), List.drop_length, List.filter_nil, List.append_nil]
   | succ m ih =>
    intro j v hj hv
    have hjl : j < d.Files.length := by omega
    have hinj : InB (j : Int) d.Files.length := ⟨by omega, by omega⟩
    unfold disk.Rename.loop0
    by_cases hja : j = a.length
    ·have hb : d.Files.drop (j + 1) = b := by rw [h1, hja, List.drop_append]; simp
     have := ih (j + 1) (v ++ [{ x with Name := to }]) (by omega) (by rw [List.length_append, List.length_singleton]; omega)
     rw [if_neg (by omega), hb] at this
     unfold disk.Rename.loop0 at this
     refine whileO_next (s' := ⟨((j + 1 : Nat) : Int), v ++ [{ x with Name := to }]⟩) ?_ (this.trans ?_)
     ·unfold disk.Rename.body0
      show (if (j : Int) < (d.Files.length : Int) then Option.bind (need (InB (j : Int) d.Files.length) (need (InB (j : Int) d.Files.length) (if (j : Int) = (a.length : Int) then need ((v.length + 1) * 40 ≤ 140737488355328) (some (v ++ [{ (ix d.Files (a.length : Int)) with Name := to }])) else _))) _ else _) = _
      rw [if_pos (by omega), need_eq hinj, need_eq hinj, if_pos (by omega), need_eq (by omega), hix, Option.bind_some]
      show some (Sum.inl (⟨IntKind.wrap .i64 ((j : Int) + 1), v ++ [{ x with Name := to }]⟩ : disk.Rename.S0)) = _
      rw [i64w (by omega) (by omega)]
      rfl
     ·rw [if_pos (by omega), hja, List.drop_length, List.filter_nil, List.nil_append, List.append_assoc]
      rfl
    ·have hstep : ∀ v', (v' = if renQ frm to d.Files[j] then v ++ [d.Files[j]] else v) → disk.Rename.body0 d (a.length : Int) to frm ⟨(j : Int), v⟩ = some (.inl ⟨((j + 1 : Nat) : Int), v'⟩) := by
      intro v' hv'
      unfold disk.Rename.body0
      show (if (j : Int) < (d.Files.length : Int) then Option.bind (need (InB (j : Int) d.Files.length) (need (InB (j : Int) d.Files.length) (if (j : Int) = (a.length : Int) then _ else letO (if (ix d.Files (j : Int)).Name = to then false else (!decide ((ix d.Files (j : Int)).Name = frm))) fun s461 => if s461 = true then need ((v.length + 1) * 40 ≤ 140737488355328) (some (v ++ [ix d.Files (j : Int)])) else some v))) _ else _) = _
      rw [if_pos (by omega), need_eq hinj, need_eq hinj, if_neg (by omega), ix_get hjl]
      have e1 : (if d.Files[j].Name = to then false else (!decide (d.Files[j].Name = frm))) = renQ frm to d.Files[j] := by
       unfold renQ isN
       by_cases hh : d.Files[j].Name = to
       ·rw [if_pos hh, decide_eq_true hh]; rfl
       ·rw [if_neg hh, decide_eq_false hh]; rfl
      rw [e1]
      show Option.bind (if renQ frm to d.Files[j] = true then need ((v.length + 1) * 40 ≤ 140737488355328) (some (v ++ [d.Files[j]])) else some v) _ = _
      rw [need_eq (by omega)]
      have e2 : (if renQ frm to d.Files[j] = true then some (v ++ [d.Files[j]]) else some v) = some v' := by rw [hv']; split <;> rfl
      rw [e2, Option.bind_some]
      show some (Sum.inl (⟨IntKind.wrap .i64 ((j : Int) + 1), v'⟩ : disk.Rename.S0)) = _
      rw [i64w (by omega) (by omega)]
      rfl
     have := ih (j + 1) (if renQ frm to d.Files[j] then v ++ [d.Files[j]] else v) (by omega) (by
      split
      ·rw [List.length_append, List.length_singleton]; omega
      ·omega)
     unfold disk.Rename.loop0 at this
     refine whileO_next (hstep _ rfl) (this.trans ?_)
     congr 1
     by_cases hlt : j < a.length
     ·have e3 : d.Files[j] = a[j] := by
       have : d.Files[j]? = a[j]? := by rw [h1, List.getElem?_append_left hlt]
       rw [List.getElem?_eq_getElem hjl, List.getElem?_eq_getElem hlt] at this
       exact Option.some.inj this
      rw [if_pos (show j + 1 ≤ a.length by omega), if_pos (show j ≤ a.length by omega), e3, List.drop_eq_getElem_cons hlt, List.filter_cons]
      split <;> simp
     ·rw [if_neg (show ¬ j + 1 ≤ a.length by omega), if_neg (show ¬ j ≤ a.length by omega), List.drop_eq_getElem_cons hjl, List.filter_cons]
      split <;> simp
  have hloop := loop d.Files.length 0 [] (by omega) (Nat.le_refl _)
  rw [if_pos (Nat.zero_le _), List.drop_zero, List.nil_append] at hloop
  show (if (takeF frm 3 d.Faults).1.isSome = true then some (({ d with Faults := (takeF frm 3 d.Faults).2 } : api.Disk), (15 : Int)) else need (InB (a.length : Int) d.Files.length) (need (InB (a.length : Int) d.Files.length) ((disk.Rename.loop0 d (a.length : Int) to frm ⟨((0 : Nat) : Int), []⟩).bind fun s358 => some (({ Files := s358, Faults := (takeF frm 3 d.Faults).2 } : api.Disk), (0 : Int))))) = _
  rw [need_eq hin, need_eq hin, hloop, Option.bind_some]
  have e4 : renF frm to d.Files = a.filter (renQ frm to) ++ { x with Name := to } :: b.filter (renQ frm to) := by rw [h1]; exact renF_mid h3 h4
  rw [e4]
  split <;> rfl

theorem renF_len (frm to : List UInt8) (l : List api.File) : (renF frm to l).length ≤ l.length := by
 induction l with
 | nil => exact Nat.le_refl _
 | cons x l ih =>
  unfold renF
  split
  ·have := List.length_filter_le (renQ frm to) l
   simp only [List.length_cons]; omega
  ·split
   ·simp only [List.length_cons]; omega
   ·simp only [List.length_cons]; omega

end Go.Pu

set_option maxHeartbeats 0
set_option maxRecDepth 100000
namespace Go.Pu
open Go.Lift

/-- The first n places' files that are the first of their names. -/
def fsts (l : List api.File) (n : Nat) : List api.File := ((List.range n).filter fun i : Nat => decide (fx l (ix l (i : Int)).Name = (i : Int))).map fun i : Nat => ix l (i : Int)

theorem fsts_succ (l : List api.File) (n : Nat) : fsts l (n + 1) = fsts l n ++ if fx l (ix l (n : Int)).Name = (n : Int) then [ix l (n : Int)] else [] := by
 unfold fsts
 rw [List.range_succ, List.filter_append, List.map_append]
 congr 1
 by_cases h : fx l (ix l (n : Int)).Name = (n : Int) <;> simp [h]

theorem fsts_len (l : List api.File) (n : Nat) : (fsts l n).length ≤ n := by
 unfold fsts
 rw [List.length_map]
 exact Nat.le_trans (List.length_filter_le _ _) (by simp)

/-- All files that count. -/
def fstA (l : List api.File) : List api.File := fsts l l.length

theorem fstA_mem {l : List api.File} {x : api.File} (h : x ∈ fstA l) : ∃ i : Nat, i < l.length ∧ fx l x.Name = (i : Int) ∧ ix l (i : Int) = x := by
 obtain ⟨i, hi, rfl⟩ := List.mem_map.1 h
 obtain ⟨h1, h2⟩ := List.mem_filter.1 hi
 exact ⟨i, List.mem_range.1 h1, of_decide_eq_true h2, rfl⟩

theorem fstA_nodup (l : List api.File) : ((fstA l).map (·.Name)).Nodup := by
 unfold fstA fsts
 rw [List.map_map]
 refine List.pairwise_map.2 ?_
 have hr : (List.range l.length).Pairwise (· ≠ ·) := List.nodup_range
 have h2 := (List.Pairwise.sublist (List.filter_sublist (p := fun i : Nat => decide (fx l (ix l (i : Int)).Name = (i : Int)))) hr)
 refine h2.imp_of_mem fun {a b} ha hb hab e => ?_
 have e1 := of_decide_eq_true (List.mem_filter.1 ha).2
 have e2 := of_decide_eq_true (List.mem_filter.1 hb).2
 have e : (ix l (a : Int)).Name = (ix l (b : Int)).Name := e
 rw [e, e2] at e1
 exact hab (by omega)

/-- In a list whose names are each there once, what is found is what is in. -/
theorem look_nodup {l : List api.File} (hn : (l.map (·.Name)).Nodup) {x : api.File} (hx : x ∈ l) : look l x.Name = some x := by
 obtain ⟨a, b, rfl⟩ := List.append_of_mem hx
 refine look_mid rfl fun y hy e => ?_
 rw [List.map_append, List.nodup_append] at hn
 exact hn.2.2 _ (List.mem_map_of_mem hy) _ (by simp) e

theorem look_some {l : List api.File} {k : List UInt8} {x : api.File} (h : look l k = some x) : x ∈ l ∧ x.Name = k :=
 ⟨List.mem_of_find?_eq_some h, isN_iff.1 (List.find?_some h)⟩

theorem fstA_has {l : List api.File} {k : List UInt8} {x : api.File} (h : look l k = some x) : x ∈ fstA l := by
 rcases fx_cases l k with ⟨_, h2⟩ | ⟨a, y, b, rfl, h2, h3, h4⟩
 ·rw [look_none h2] at h; cases h
 ·rw [look_mid h3 h4] at h
  obtain rfl := Option.some.inj h
  refine List.mem_map.2 ⟨a.length, List.mem_filter.2 ⟨List.mem_range.2 (by simp), ?_⟩, ?_⟩
  ·rw [ix_mid rfl, h3]
   exact decide_eq_true h2
  ·exact ix_mid rfl

theorem look_fstA (l : List api.File) (g : api.File → api.File) (hg : ∀ x, (g x).Name = x.Name) (k : List UInt8) : look ((fstA l).map g) k = (look l k).map g := by
 have hn : (((fstA l).map g).map (·.Name)).Nodup := by
  rw [List.map_map, show ((·.Name) ∘ g) = (fun x : api.File => x.Name) from funext hg]
  exact fstA_nodup l
 cases h : look l k with
 | some x =>
  have h1 := look_nodup hn (List.mem_map_of_mem (f := g) (fstA_has h))
  rw [hg, (look_some h).2] at h1
  exact h1
 | none =>
  refine look_none fun y hy e => ?_
  obtain ⟨z, hz, rfl⟩ := List.mem_map.1 hy
  obtain ⟨i, hi, _, rfl⟩ := fstA_mem hz
  rw [hg] at e
  have := List.find?_eq_none.1 h (ix l (i : Int)) (by rw [ix_get hi]; exact List.getElem_mem hi)
  exact this (isN_iff.2 e)

end Go.Pu

set_option maxHeartbeats 0
set_option maxRecDepth 100000
namespace Go.Pu
open Go.Lift

theorem min10000 (n : Nat) : (if 10000 < (n : Int) then 10000 else (n : Int)) = ((min n 10000 : Nat) : Int) := by split <;> omega

/-- The sizes that chapter 16 speaks of. -/
structure Small16 (d : api.Disk) : Prop where
 f : d.Files.length ≤ 40
 t : d.Faults.length ≤ 100
 b : ∀ x, x ∈ d.Files → x.Data.length ≤ 5000 ∧ x.Name.length ≤ 5000

theorem Far16_eq (d : api.Disk) (l : List mewslaw16.Op) (hd : d.Files.length < 1000000000000000) (hl : l.length < 1000000000000000) :
  ∃ b, mewslaw16.Far d l = some b ∧ (b = false → Small16 d ∧ l.length ≤ 100 ∧ ∀ o, o ∈ l → o.S.length ≤ 5000 ∧ o.Name.length ≤ 5000) := by
 have m1 : ∃ q, mewslaw16.Far.loop0 d ⟨0, 0⟩ = some q ∧ (q = .inr true ∨ ∃ n : Nat, q = .inl (n : Int) ∧ n ≤ 5000 ∧ ∀ x, x ∈ d.Files → x.Data.length ≤ 5000 ∧ x.Name.length ≤ 5000) := by
  unfold mewslaw16.Far.loop0
  refine whileO_dec (fun s => ∃ n i : Nat, s = ⟨(n : Int), (i : Int)⟩ ∧ n ≤ 5000 ∧ i ≤ d.Files.length ∧ ∀ x, x ∈ d.Files.take i → x.Data.length ≤ 5000 ∧ x.Name.length ≤ 5000) (fun s => d.Files.length - s.t13.toNat) _ ?_ _ ⟨0, 0, rfl, Nat.zero_le _, Nat.zero_le _, fun x hx => by simp at hx⟩
  rintro s ⟨n, i, rfl, hn, hi, hall⟩
  unfold mewslaw16.Far.body0
  by_cases hlt : i < d.Files.length
  ·rw [if_pos (show (i : Int) < (d.Files.length : Int) by omega), need_eq ⟨by show (0 : Int) ≤ (i : Int); omega, by show (i : Int) < (d.Files.length : Int); omega⟩]
   have e : IntKind.wrap .i64 ((n : Int) + (IntKind.wrap .i64 ((if 10000 < ((ix d.Files (i : Int)).Data.length : Int) then 10000 else ((ix d.Files (i : Int)).Data.length : Int)) + (if 10000 < ((ix d.Files (i : Int)).Name.length : Int) then 10000 else ((ix d.Files (i : Int)).Name.length : Int))))) = ((n + (min d.Files[i].Data.length 10000 + min d.Files[i].Name.length 10000) : Nat) : Int) := by
    rw [ix_get hlt, min10000, min10000, i64w (n := ((min d.Files[i].Data.length 10000 : Nat) : Int) + ((min d.Files[i].Name.length 10000 : Nat) : Int)) (by omega) (by omega), i64w (by omega) (by omega)]
    omega
   show (∃ s', letO (IntKind.wrap .i64 ((n : Int) + (IntKind.wrap .i64 ((if 10000 < ((ix d.Files (i : Int)).Data.length : Int) then 10000 else ((ix d.Files (i : Int)).Data.length : Int)) + (if 10000 < ((ix d.Files (i : Int)).Name.length : Int) then 10000 else ((ix d.Files (i : Int)).Name.length : Int)))))) (fun x144 => if 5000 < x144 then some (Sum.inr (Sum.inr true)) else some (Sum.inl (⟨x144, IntKind.wrap .i64 ((i : Int) + 1)⟩ : mewslaw16.Far.S0))) = some (Sum.inl s') ∧ _) ∨ ∃ r, letO (IntKind.wrap .i64 ((n : Int) + (IntKind.wrap .i64 ((if 10000 < ((ix d.Files (i : Int)).Data.length : Int) then 10000 else ((ix d.Files (i : Int)).Data.length : Int)) + (if 10000 < ((ix d.Files (i : Int)).Name.length : Int) then 10000 else ((ix d.Files (i : Int)).Name.length : Int)))))) (fun x144 => if 5000 < x144 then some (Sum.inr (Sum.inr true)) else some (Sum.inl (⟨x144, IntKind.wrap .i64 ((i : Int) + 1)⟩ : mewslaw16.Far.S0))) = some (Sum.inr r) ∧ _
   rw [e, i64w (by omega) (by omega)]
   unfold letO
   dsimp only
   by_cases hb : 5000 < n + (min d.Files[i].Data.length 10000 + min d.Files[i].Name.length 10000)
   ·right
    rw [if_pos (by omega)]
    exact ⟨_, rfl, .inl rfl⟩
   ·left
    rw [if_neg (by omega)]
    refine ⟨_, rfl, ⟨_, i + 1, by rw [show ((i : Int) + 1) = ((i + 1 : Nat) : Int) by omega], by omega, hlt, fun x hx => ?_⟩, ?_⟩
    ·rw [List.take_add_one, List.getElem?_eq_getElem hlt] at hx
     rcases List.mem_append.1 hx with hx | hx
     ·exact hall x hx
     ·obtain rfl : x = d.Files[i] := by simpa using hx
      omega
    ·show d.Files.length - ((i : Int) + 1).toNat < d.Files.length - (i : Int).toNat
     omega
  ·right
   rw [if_neg (show ¬ (i : Int) < (d.Files.length : Int) by omega)]
   refine ⟨_, rfl, .inr ⟨n, rfl, hn, ?_⟩⟩
   rwa [List.take_of_length_le (by omega)] at hall
 obtain ⟨q, hq, hq2⟩ := m1
 unfold mewslaw16.Far
 rw [hq, Option.bind_some]
 rcases hq2 with rfl | ⟨n, rfl, hn, hall⟩
 ·exact ⟨true, rfl, fun h => by cases h⟩
 ·have m2 : ∃ q, mewslaw16.Far.loop2 l ⟨(n : Int), 0⟩ = some q ∧ (q = .inr true ∨ q = .inl () ∧ ∀ o, o ∈ l → o.S.length ≤ 5000 ∧ o.Name.length ≤ 5000) := by
   unfold mewslaw16.Far.loop2
   refine whileO_dec (fun s => ∃ n i : Nat, s = ⟨(n : Int), (i : Int)⟩ ∧ n ≤ 5000 ∧ i ≤ l.length ∧ ∀ x, x ∈ l.take i → x.S.length ≤ 5000 ∧ x.Name.length ≤ 5000) (fun s => l.length - s.t33.toNat) _ ?_ _ ⟨n, 0, rfl, hn, Nat.zero_le _, fun x hx => by simp at hx⟩
   rintro s ⟨n, i, rfl, hn, hi, hall⟩
   unfold mewslaw16.Far.body2
   by_cases hlt : i < l.length
   ·rw [if_pos (show (i : Int) < (l.length : Int) by omega), need_eq ⟨by show (0 : Int) ≤ (i : Int); omega, by show (i : Int) < (l.length : Int); omega⟩]
    have e : IntKind.wrap .i64 ((n : Int) + (IntKind.wrap .i64 ((if 10000 < ((ix l (i : Int)).S.length : Int) then 10000 else ((ix l (i : Int)).S.length : Int)) + (if 10000 < ((ix l (i : Int)).Name.length : Int) then 10000 else ((ix l (i : Int)).Name.length : Int))))) = ((n + (min l[i].S.length 10000 + min l[i].Name.length 10000) : Nat) : Int) := by
     rw [ix_get hlt, min10000, min10000, i64w (n := ((min l[i].S.length 10000 : Nat) : Int) + ((min l[i].Name.length 10000 : Nat) : Int)) (by omega) (by omega), i64w (by omega) (by omega)]
     omega
    show (∃ s', letO (IntKind.wrap .i64 ((n : Int) + (IntKind.wrap .i64 ((if 10000 < ((ix l (i : Int)).S.length : Int) then 10000 else ((ix l (i : Int)).S.length : Int)) + (if 10000 < ((ix l (i : Int)).Name.length : Int) then 10000 else ((ix l (i : Int)).Name.length : Int)))))) (fun x189 => if 5000 < x189 then some (Sum.inr (Sum.inr true)) else some (Sum.inl (⟨x189, IntKind.wrap .i64 ((i : Int) + 1)⟩ : mewslaw16.Far.S2))) = some (Sum.inl s') ∧ _) ∨ ∃ r, letO (IntKind.wrap .i64 ((n : Int) + (IntKind.wrap .i64 ((if 10000 < ((ix l (i : Int)).S.length : Int) then 10000 else ((ix l (i : Int)).S.length : Int)) + (if 10000 < ((ix l (i : Int)).Name.length : Int) then 10000 else ((ix l (i : Int)).Name.length : Int)))))) (fun x189 => if 5000 < x189 then some (Sum.inr (Sum.inr true)) else some (Sum.inl (⟨x189, IntKind.wrap .i64 ((i : Int) + 1)⟩ : mewslaw16.Far.S2))) = some (Sum.inr r) ∧ _
    rw [e, i64w (by omega) (by omega)]
    unfold letO
    dsimp only
    by_cases hb : 5000 < n + (min l[i].S.length 10000 + min l[i].Name.length 10000)
    ·right
     rw [if_pos (by omega)]
     exact ⟨_, rfl, .inl rfl⟩
    ·left
     rw [if_neg (by omega)]
     refine ⟨_, rfl, ⟨_, i + 1, by rw [show ((i : Int) + 1) = ((i + 1 : Nat) : Int) by omega], by omega, hlt, fun x hx => ?_⟩, ?_⟩
     ·rw [List.take_add_one, List.getElem?_eq_getElem hlt] at hx
      rcases List.mem_append.1 hx with hx | hx
      ·exact hall x hx
      ·obtain rfl : x = l[i] := by simpa using hx
       omega
     ·show l.length - ((i : Int) + 1).toNat < l.length - (i : Int).toNat
      omega
   ·right
    rw [if_neg (show ¬ (i : Int) < (l.length : Int) by omega)]
    refine ⟨_, rfl, .inr ⟨rfl, ?_⟩⟩
    rwa [List.take_of_length_le (by omega)] at hall
  obtain ⟨q2, hq2, hq3⟩ := m2
  show ∃ b, (mewslaw16.Far.loop2 l ⟨(n : Int), 0⟩).bind _ = some b ∧ _
  rw [hq2, Option.bind_some]
  rcases hq3 with rfl | ⟨rfl, hall2⟩
  ·exact ⟨true, rfl, fun h => by cases h⟩
  ·refine ⟨_, rfl, fun h => ?_⟩
   by_cases h1 : 40 < (d.Files.length : Int)
   ·rw [if_pos h1] at h; cases h
   ·rw [if_neg h1] at h
    by_cases h2 : 100 < (d.Faults.length : Int)
    ·rw [if_pos h2] at h; cases h
    ·rw [if_neg h2] at h
     have h3 := of_decide_eq_false h
     exact ⟨⟨by omega, by omega, hall⟩, by omega, hall2⟩

end Go.Pu
