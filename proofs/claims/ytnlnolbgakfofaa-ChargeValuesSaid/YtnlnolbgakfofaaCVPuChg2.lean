import Derived.Test.YtnlnolbgakfofaaCVPuChg1
set_option maxHeartbeats 0
set_option maxRecDepth 100000
namespace Go.Pu
open Go.Lift

structure FitsV (v : api.Value) : Prop where
 t : v.Text.length < 1000000000000000
 l : v.List_.length < 1000000000000000
 l1 : ∀ x, x ∈ v.List_ → gS x < 3000000000000000
 h : v.Hash.length < 1000000000000000
 h1 : ∀ x, x ∈ v.Hash → gF x < 3000000000000000
 z : v.ZSet.length < 1000000000000000
 z1 : ∀ x, x ∈ v.ZSet → gZ x < 3000000000000000

structure SmallV (v : api.Value) : Prop where
 t : v.Text.length ≤ 3000
 l : sumL gS v.List_ ≤ 3000
 h : sumL gF v.Hash ≤ 3000
 z : sumL gZ v.ZSet ≤ 3000

theorem Size_eq {v : api.Value} (h : FitsV v) : ∃ n : Nat, mewsref19.Size v = some (n : Int) ∧ n < 8000000000000000 ∧ (n ≤ 3000 → SmallV v) := by
 have ht := h.t
 obtain ⟨n1, e1, a1, b1, c1⟩ := size_loop0 v v.Text.length (by omega) h.l h.l1
 obtain ⟨n2, e2, a2, b2, c2⟩ := size_loop2 v n1 (by omega) h.h h.h1
 obtain ⟨n3, e3, a3, b3, c3⟩ := size_loop4 v n2 (by omega) h.z h.z1
 refine ⟨n3, ?_, by omega, fun hn => ?_⟩
 ·unfold mewsref19.Size
  rw [e1, Option.bind_some, e2, Option.bind_some, e3]
  rfl
 ·have h3 := c3 hn
  have h2 := c2 (by omega)
  have h1 := c1 (by omega)
  exact ⟨by omega, by omega, by omega, by omega⟩

theorem Far_eq (ls : List api.Value) (hls : ls.length < 1000000000000000) (hf : ∀ v, v ∈ ls → FitsV v) : ∃ b, mewslaw19.Far ls = some b ∧ (b = false → ∀ v, v ∈ ls → SmallV v) := by
 have main : ∃ q, mewslaw19.Far.loop0 ls ⟨0, 0⟩ = some q ∧ (q = .inr true ∨ (q = .inl () ∧ ∀ l, l ∈ ls → SmallV l)) := by
  unfold mewslaw19.Far.loop0
  refine whileO_meas (fun t => ∃ i : Nat, t.t8 = (i : Int) ∧ i ≤ ls.length ∧ 0 ≤ t.n ∧ t.n ≤ 3000 ∧ ∀ l, l ∈ ls.take i → SmallV l) (fun t => ls.length - t.t8.toNat) _ (fun t => ?_) _ ⟨0, rfl, by omega, by show (0 : Int) ≤ 0; omega, by show (0 : Int) ≤ 3000; omega, by simp⟩
  obtain ⟨tn, ti⟩ := t
  rintro ⟨i, e, hi, h0, h1, h3⟩
  replace e : ti = (i : Int) := e
  replace h0 : 0 ≤ tn := h0
  replace h1 : tn ≤ 3000 := h1
  subst e
  unfold mewslaw19.Far.body0
  show (∃ s', (if (i : Int) < (ls.length : Int) then _ else _ : Option _) = _ ∧ _) ∨ (∃ s', (if (i : Int) < (ls.length : Int) then _ else _ : Option _) = _ ∧ _)
  by_cases hil : i < ls.length
  ·rw [if_pos (by omega), need_eq ⟨by show (0 : Int) ≤ (i : Int); omega, by show (i : Int) < (ls.length : Int); omega⟩]
   show (∃ s', ((mewsref19.Size (ix ls (i : Int))).bind _) = _ ∧ _) ∨ _
   obtain ⟨n, en, hn1, hs⟩ := Size_eq (hf ls[i] (List.getElem_mem hil))
   rw [ix_get hil, en, Option.bind_some]
   show (∃ s', (if 3000 < IntKind.wrap .i64 (tn + (n : Int)) then _ else some (Sum.inl (⟨IntKind.wrap .i64 (tn + (n : Int)), IntKind.wrap .i64 ((i : Int) + 1)⟩ : mewslaw19.Far.S0)) : Option _) = _ ∧ _) ∨ _
   rw [i64w (n := tn + n) (by omega) (by omega), i64w (by omega) (by omega)]
   by_cases h3000 : 3000 < tn + n
   ·rw [if_pos h3000]
    exact .inr ⟨_, rfl, .inl rfl⟩
   ·rw [if_neg h3000]
    refine .inl ⟨_, rfl, ⟨i + 1, by show (i : Int) + 1 = _; omega, by omega, by show 0 ≤ tn + n; omega, by show tn + n ≤ 3000; omega, fun l hlm => ?_⟩, ?_⟩
    ·rw [take_sn hil] at hlm
     rcases List.mem_append.1 hlm with hlm | hlm
     ·exact h3 l hlm
     ·simp at hlm; subst hlm
      exact hs (by omega)
    ·show ls.length - ((i : Int) + 1).toNat < ls.length - (i : Int).toNat
     omega
  ·rw [if_neg (by omega)]
   rw [List.take_of_length_le (by omega)] at h3
   exact .inr ⟨_, rfl, .inr ⟨rfl, h3⟩⟩
 obtain ⟨q, hq, h⟩ := main
 unfold mewslaw19.Far
 rw [hq, Option.bind_some]
 rcases h with rfl | ⟨rfl, h⟩
 ·exact ⟨true, rfl, fun h => by cases h⟩
 ·exact ⟨_, rfl, fun _ => h⟩

/-! ### What is charged -/
def kindN (v : api.Value) : Nat :=
 if v.Kind = 1 then v.Text.length else if v.Kind = 2 then sumL c1 v.List_ else if v.Kind = 4 then sumL c3 v.List_ else if v.Kind = 3 then sumL c5 v.Hash else if v.Kind = 5 then sumL c7 v.ZSet else 0
def ofM (e : api.Entry) : Nat := 56 + e.Key.length + (if e.At = 0 then 0 else 16) + kindN e.Val

/-- What is not too much to be charged. -/
structure Okay (e : api.Entry) : Prop where
 k : e.Key.length < 1000000000000000
 t : e.Val.Text.length < 1000000000000000
 l : e.Val.List_.length < 1000000000000000
 l1 : sumL c1 e.Val.List_ < 1000000000000000
 l3 : sumL c3 e.Val.List_ < 1000000000000000
 h : e.Val.Hash.length < 1000000000000000
 h1 : sumL c5 e.Val.Hash < 1000000000000000
 z : e.Val.ZSet.length < 1000000000000000
 z1 : sumL c7 e.Val.ZSet < 1000000000000000

theorem Of_eq {e : api.Entry} (h : Okay e) : charge.Of e = some (ofM e : Int) := by
 obtain ⟨k, t, l, l1, l3, hh, h1, z, z1⟩ := h
 unfold charge.Of letO
 have h0 : (if e.At = 0 then IntKind.wrap .i64 (56 + (e.Key.length : Int)) else IntKind.wrap .i64 ((IntKind.wrap .i64 (56 + (e.Key.length : Int))) + 16)) = ((56 + e.Key.length + (if e.At = 0 then 0 else 16) : Nat) : Int) := by
  rw [i64w (n := 56 + (e.Key.length : Int)) (by omega) (by omega), i64w (by omega) (by omega)]
  by_cases ha : e.At = 0
  ·rw [if_pos ha, if_pos ha]; omega
  ·rw [if_neg ha, if_neg ha]; omega
 have hb : 56 + e.Key.length + (if e.At = 0 then 0 else 16) < 2000000000000000 := by split <;> omega
 show ((if e.Val.Kind = 1 then some (IntKind.wrap .i64 ((if e.At = 0 then IntKind.wrap .i64 (56 + (e.Key.length : Int)) else IntKind.wrap .i64 ((IntKind.wrap .i64 (56 + (e.Key.length : Int))) + 16)) + (e.Val.Text.length : Int))) else if e.Val.Kind = 2 then charge.Of.loop1 e ⟨(if e.At = 0 then IntKind.wrap .i64 (56 + (e.Key.length : Int)) else IntKind.wrap .i64 ((IntKind.wrap .i64 (56 + (e.Key.length : Int))) + 16)), 0⟩ else if e.Val.Kind = 4 then charge.Of.loop3 e ⟨(if e.At = 0 then IntKind.wrap .i64 (56 + (e.Key.length : Int)) else IntKind.wrap .i64 ((IntKind.wrap .i64 (56 + (e.Key.length : Int))) + 16)), 0⟩ else if e.Val.Kind = 3 then charge.Of.loop5 e ⟨(if e.At = 0 then IntKind.wrap .i64 (56 + (e.Key.length : Int)) else IntKind.wrap .i64 ((IntKind.wrap .i64 (56 + (e.Key.length : Int))) + 16)), 0⟩ else if e.Val.Kind = 5 then charge.Of.loop7 e ⟨(if e.At = 0 then IntKind.wrap .i64 (56 + (e.Key.length : Int)) else IntKind.wrap .i64 ((IntKind.wrap .i64 (56 + (e.Key.length : Int))) + 16)), 0⟩ else some (if e.At = 0 then IntKind.wrap .i64 (56 + (e.Key.length : Int)) else IntKind.wrap .i64 ((IntKind.wrap .i64 (56 + (e.Key.length : Int))) + 16)) : Option Int).bind _) = _
 rw [h0]
 unfold ofM kindN
 generalize 56 + e.Key.length + (if e.At = 0 then 0 else 16) = n0 at hb
 by_cases k1 : e.Val.Kind = 1
 ·rw [if_pos k1, if_pos k1, i64w (by omega) (by omega), Option.bind_some]
  congr 1
 ·rw [if_neg k1, if_neg k1]
  by_cases k2 : e.Val.Kind = 2
  ·rw [if_pos k2, if_pos k2, of_loop1 e n0 (by omega) l]; rfl
  ·rw [if_neg k2, if_neg k2]
   by_cases k4 : e.Val.Kind = 4
   ·rw [if_pos k4, if_pos k4, of_loop3 e n0 (by omega) l]; rfl
   ·rw [if_neg k4, if_neg k4]
    by_cases k3 : e.Val.Kind = 3
    ·rw [if_pos k3, if_pos k3, of_loop5 e n0 (by omega) hh]; rfl
    ·rw [if_neg k3, if_neg k3]
     by_cases k5 : e.Val.Kind = 5
     ·rw [if_pos k5, if_pos k5, of_loop7 e n0 (by omega) z]; rfl
     ·rw [if_neg k5, if_neg k5]; rfl

theorem SmallV.c1 {v : api.Value} (h : SmallV v) : sumL c1 v.List_ ≤ 120000 := by
 have := sumL_le (f := Go.Pu.c1) (g := gS) (c := 40) (fun x => by unfold Go.Pu.c1 gS; omega) v.List_
 have := h.l
 omega
theorem SmallV.c3 {v : api.Value} (h : SmallV v) : sumL c3 v.List_ ≤ 120000 := by
 have := sumL_le (f := Go.Pu.c3) (g := gS) (c := 40) (fun x => by unfold Go.Pu.c3 gS; omega) v.List_
 have := h.l
 omega
theorem SmallV.c5 {v : api.Value} (h : SmallV v) : sumL c5 v.Hash ≤ 120000 := by
 have := sumL_le (f := Go.Pu.c5) (g := gF) (c := 40) (fun x => by unfold Go.Pu.c5 gF; omega) v.Hash
 have := h.h
 omega
theorem SmallV.c7 {v : api.Value} (h : SmallV v) : sumL c7 v.ZSet ≤ 120000 := by
 have := sumL_le (f := Go.Pu.c7) (g := gZ) (c := 40) (fun x => by unfold Go.Pu.c7 gZ; omega) v.ZSet
 have := h.z
 omega
theorem SmallV.lens {v : api.Value} (h : SmallV v) : v.List_.length ≤ 3000 ∧ v.Hash.length ≤ 3000 ∧ v.ZSet.length ≤ 3000 := by
 have h1 := sumL_len (g := gS) (fun x => by unfold gS; omega) v.List_
 have h2 := sumL_len (g := gF) (fun x => by unfold gF; omega) v.Hash
 have h3 := sumL_len (g := gZ) (fun x => by unfold gZ; omega) v.ZSet
 have := h.l
 have := h.h
 have := h.z
 omega

/-! ### alive -/
theorem set_alive : charge.Set [[98], [97], [98]] = some { Kind := 4, Text := [], List_ := [[97], [98]], Hash := [], ZSet := [] } := by
 have h1 : ([[98], [97], [98]] : List Str).mergeSort (fun a b => decide (a ≤ b)) = [[97], [98], [98]] := by
  have a1 : ¬ (([98] : Str) ≤ [97]) := by decide
  have a2 : ([97] : Str) ≤ [98] := by decide
  have a3 : ([98] : Str) ≤ [98] := by decide
  simp [List.mergeSort, List.MergeSort.Internal.splitInTwo, List.merge, a1, a2, a3]
 have h2 : Go.Lib.compact ([[97], [98], [98]] : List Str) = [[97], [98]] := by decide
 unfold charge.Set
 rw [if_neg (by decide)]
 unfold slices.Clone_string slices.Sort_string slices.Compact_string slices.Clip_string
 rw [need_eq (by decide), Option.bind_some, need_eq (by decide), Option.bind_some, h1, need_eq (by decide), Option.bind_some, h2, need_eq (by decide), Option.bind_some]
 rfl

theorem alive19 : mewslaw19.alive = some true := by
 unfold mewslaw19.alive
 rw [set_alive]
 have e1 : charge.Text [98, 99] = some { Kind := 1, Text := [98, 99], List_ := [], Hash := [], ZSet := [] } := rfl
 have e2 : charge.Of { Key := [97], Val := { Kind := 1, Text := [98, 99], List_ := [], Hash := [], ZSet := [] }, At := 0 } = some 59 := charge.Of.c_le 100 _ _ (by decide +kernel)
 have e3 : charge.Of { Key := [97], Val := { Kind := 1, Text := [98, 99], List_ := [], Hash := [], ZSet := [] }, At := 7 } = some 75 := charge.Of.c_le 100 _ _ (by decide +kernel)
 have e4 : charge.All [{ Key := [97], Val := { Kind := 1, Text := [98, 99], List_ := [], Hash := [], ZSet := [] }, At := 0 }, { Key := [97], Val := { Kind := 1, Text := [98, 99], List_ := [], Hash := [], ZSet := [] }, At := 7 }] = some 134 := charge.All.c_le 100 _ _ (by decide +kernel)
 have e5 : charge.May { Kind := 4, Text := [], List_ := [[97], [98]], Hash := [], ZSet := [] } = some true := charge.May.c_le 100 _ _ (by decide +kernel)
 have e6 : charge.Name 5 = some [122, 115, 101, 116] := by decide
 rw [e1, Option.bind_some, e2, Option.bind_some, if_pos rfl, e3, Option.bind_some, if_pos rfl, e4, Option.bind_some, if_pos rfl, Option.bind_some, e5, Option.bind_some, if_pos rfl, e6]
 rfl


/-! ### ChargeMore -/
theorem ChargeMore_pure (e : api.Entry) (s : Str) (f : api.Field) (hv : FitsV e.Val) (hk : e.Key.length < 1000000000000000) (hs : s.length < 1000000000000000) (hf : f.Key.length < 1000000000000000 ∧ f.Val.length < 1000000000000000) : mewslaw19.ChargeMore e s f = some true := by
 obtain ⟨b, eb, hb⟩ := Far_eq [e.Val] (by simp) (fun v h => by
  have : v = e.Val := by simpa using h
  rw [this]; exact hv)
 unfold mewslaw19.ChargeMore
 rw [eb, Option.bind_some, alive19]
 have hsum : IntKind.wrap .i64 ((IntKind.wrap .i64 ((IntKind.wrap .i64 ((e.Key.length : Int) + (s.length : Int))) + (f.Key.length : Int))) + (f.Val.length : Int)) = ((e.Key.length + s.length + f.Key.length + f.Val.length : Nat) : Int) := by
  rw [i64w (n := (e.Key.length : Int) + _) (by omega) (by omega), i64w (n := (e.Key.length : Int) + s.length + _) (by omega) (by omega), i64w (by omega) (by omega)]
  omega
 rw [hsum]
 cases b with
 | true => rfl
 | false =>
  have hsm := hb rfl e.Val (by simp)
  rw [if_neg (by decide), Option.bind_some]
  by_cases hbig : 2000 < ((e.Key.length + s.length + f.Key.length + f.Val.length : Nat) : Int)
  ·rw [decide_eq_true hbig]; rfl
  ·rw [decide_eq_false hbig, if_neg (by decide)]
   have q1 := hsm.c1
   have q3 := hsm.c3
   have q5 := hsm.c5
   have q7 := hsm.c7
   have qt := hsm.t
   obtain ⟨ql, qh, qz⟩ := hsm.lens
   have hok : Okay e := ⟨by omega, by omega, by omega, by omega, by omega, by omega, by omega, by omega, by omega⟩
   have hkN : kindN e.Val ≤ 120000 := by
    unfold kindN
    repeat' split
    all_goals omega
   have ho0 : ofM e ≤ 200000 ∧ 56 ≤ ofM e := by
    unfold ofM
    constructor
    ·split <;> omega
    ·omega
   rw [Of_eq hok, Option.bind_some]
   -- what is turned, and by how much
   have step : ∃ (by_ : Nat) (T : Str) (L : List Str) (H : List api.Field) (Z : List api.Scored),
     (if e.Val.Kind = 1 then
      need (e.Val.Text.length + s.length ≤ 9223372036854775807) (some ((s.length : Int), e.Val.Text ++ s, e.Val.List_, e.Val.Hash, e.Val.ZSet))
     else
      letO (if e.Val.Kind = 2 then decide (e.Val.Kind = 2) else decide (e.Val.Kind = 4)) fun s125 =>
      if s125 = true then
       need ((([] : List (List UInt8)).length + e.Val.List_.length) * 16 ≤ 140737488355328) <|
       need (((([] : List (List UInt8)) ++ e.Val.List_).length + [s].length) * 16 ≤ 140737488355328) <|
       if e.Val.Kind = 4 then
        some (IntKind.wrap .i64 (24 + (s.length : Int)), e.Val.Text, (([] : List (List UInt8)) ++ e.Val.List_) ++ [s], e.Val.Hash, e.Val.ZSet)
       else
        some (IntKind.wrap .i64 (16 + (s.length : Int)), e.Val.Text, (([] : List (List UInt8)) ++ e.Val.List_) ++ [s], e.Val.Hash, e.Val.ZSet)
      else
       if e.Val.Kind = 3 then
        need ((([] : List api.Field).length + e.Val.Hash.length) * 32 ≤ 140737488355328) <|
        need (((([] : List api.Field) ++ e.Val.Hash).length + [f].length) * 32 ≤ 140737488355328) <|
        some (IntKind.wrap .i64 ((IntKind.wrap .i64 (32 + (f.Key.length : Int))) + (f.Val.length : Int)), e.Val.Text, e.Val.List_, (([] : List api.Field) ++ e.Val.Hash) ++ [f], e.Val.ZSet)
       else
        if e.Val.Kind = 5 then
         need ((([] : List api.Scored).length + e.Val.ZSet.length) * 24 ≤ 140737488355328) <|
         need (((([] : List api.Scored) ++ e.Val.ZSet).length + [({ Member := s, Score := 0 } : api.Scored)].length) * 24 ≤ 140737488355328) <|
         some (IntKind.wrap .i64 (40 + (s.length : Int)), e.Val.Text, e.Val.List_, e.Val.Hash, (([] : List api.Scored) ++ e.Val.ZSet) ++ [({ Member := s, Score := 0 } : api.Scored)])
        else
         some (0, e.Val.Text, e.Val.List_, e.Val.Hash, e.Val.ZSet) : Option (Int × Str × List Str × List api.Field × List api.Scored)) = some ((by_ : Int), T, L, H, Z) ∧
     Okay { e with Val := { Kind := e.Val.Kind, Text := T, List_ := L, Hash := H, ZSet := Z } } ∧ kindN { Kind := e.Val.Kind, Text := T, List_ := L, Hash := H, ZSet := Z } = kindN e.Val + by_ ∧ by_ ≤ 3000 := by
    by_cases k1 : e.Val.Kind = 1
    ·rw [if_pos k1, need_eq (by omega)]
     refine ⟨s.length, e.Val.Text ++ s, e.Val.List_, e.Val.Hash, e.Val.ZSet, rfl, ⟨by show e.Key.length < _; omega, by show (e.Val.Text ++ s).length < _; rw [List.length_append]; omega, hok.l, hok.l1, hok.l3, hok.h, hok.h1, hok.z, hok.z1⟩, ?_, by omega⟩
     unfold kindN
     rw [if_pos k1, if_pos k1, List.length_append]
    ·rw [if_neg k1]
     unfold letO
     by_cases k2 : e.Val.Kind = 2
     ·show ∃ by_ T L H Z, (if (if e.Val.Kind = 2 then decide (e.Val.Kind = 2) else decide (e.Val.Kind = 4)) = true then _ else _ : Option _) = _ ∧ _
      rw [if_pos k2, if_pos (decide_eq_true k2), need_eq (by simp only [List.length_nil]; omega), need_eq (by simp only [List.nil_append, List.length_singleton]; omega), if_neg (by omega), i64w (by omega) (by omega)]
      refine ⟨16 + s.length, e.Val.Text, e.Val.List_ ++ [s], e.Val.Hash, e.Val.ZSet, by rw [show ((16 + s.length : Nat) : Int) = 16 + (s.length : Int) by omega]; rfl, ⟨hok.k, hok.t, by show (e.Val.List_ ++ [s]).length < _; rw [List.length_append, List.length_singleton]; omega, by show sumL c1 (e.Val.List_ ++ [s]) < _; rw [sumL_append, sumL_one]; unfold Go.Pu.c1 at *; omega, by show sumL c3 (e.Val.List_ ++ [s]) < _; rw [sumL_append, sumL_one]; unfold Go.Pu.c3 at *; omega, hok.h, hok.h1, hok.z, hok.z1⟩, ?_, by omega⟩
      unfold kindN
      rw [if_neg k1, if_neg k1, if_pos k2, if_pos k2, sumL_append, sumL_one]
      rfl
     ·by_cases k4 : e.Val.Kind = 4
      ·show ∃ by_ T L H Z, (if (if e.Val.Kind = 2 then decide (e.Val.Kind = 2) else decide (e.Val.Kind = 4)) = true then _ else _ : Option _) = _ ∧ _
       rw [if_neg k2, if_pos (decide_eq_true k4), need_eq (by simp only [List.length_nil]; omega), need_eq (by simp only [List.nil_append, List.length_singleton]; omega), if_pos k4, i64w (by omega) (by omega)]
       refine ⟨24 + s.length, e.Val.Text, e.Val.List_ ++ [s], e.Val.Hash, e.Val.ZSet, by rw [show ((24 + s.length : Nat) : Int) = 24 + (s.length : Int) by omega]; rfl, ⟨hok.k, hok.t, by show (e.Val.List_ ++ [s]).length < _; rw [List.length_append, List.length_singleton]; omega, by show sumL c1 (e.Val.List_ ++ [s]) < _; rw [sumL_append, sumL_one]; unfold Go.Pu.c1 at *; omega, by show sumL c3 (e.Val.List_ ++ [s]) < _; rw [sumL_append, sumL_one]; unfold Go.Pu.c3 at *; omega, hok.h, hok.h1, hok.z, hok.z1⟩, ?_, by omega⟩
       unfold kindN
       rw [if_neg k1, if_neg k1, if_neg k2, if_neg k2, if_pos k4, if_pos k4, sumL_append, sumL_one]
       rfl
      ·show ∃ by_ T L H Z, (if (if e.Val.Kind = 2 then decide (e.Val.Kind = 2) else decide (e.Val.Kind = 4)) = true then _ else _ : Option _) = _ ∧ _
       rw [if_neg k2, decide_eq_false k4, if_neg (by decide)]
       by_cases k3 : e.Val.Kind = 3
       ·rw [if_pos k3, need_eq (by simp only [List.length_nil]; omega), need_eq (by simp only [List.nil_append, List.length_singleton]; omega), i64w (n := 32 + _) (by omega) (by omega), i64w (by omega) (by omega)]
        refine ⟨32 + f.Key.length + f.Val.length, e.Val.Text, e.Val.List_, e.Val.Hash ++ [f], e.Val.ZSet, by rw [show ((32 + f.Key.length + f.Val.length : Nat) : Int) = 32 + (f.Key.length : Int) + f.Val.length by omega]; rfl, ⟨hok.k, hok.t, hok.l, hok.l1, hok.l3, by show (e.Val.Hash ++ [f]).length < _; rw [List.length_append, List.length_singleton]; omega, by show sumL c5 (e.Val.Hash ++ [f]) < _; rw [sumL_append, sumL_one]; unfold Go.Pu.c5 at *; omega, hok.z, hok.z1⟩, ?_, by omega⟩
        unfold kindN
        rw [if_neg k1, if_neg k1, if_neg k2, if_neg k2, if_neg k4, if_neg k4, if_pos k3, if_pos k3, sumL_append, sumL_one]
        rfl
       ·rw [if_neg k3]
        by_cases k5 : e.Val.Kind = 5
        ·rw [if_pos k5, need_eq (by simp only [List.length_nil]; omega), need_eq (by simp only [List.nil_append, List.length_singleton]; omega), i64w (by omega) (by omega)]
         refine ⟨40 + s.length, e.Val.Text, e.Val.List_, e.Val.Hash, e.Val.ZSet ++ [{ Member := s, Score := 0 }], by rw [show ((40 + s.length : Nat) : Int) = 40 + (s.length : Int) by omega]; rfl, ⟨hok.k, hok.t, hok.l, hok.l1, hok.l3, hok.h, hok.h1, by show (e.Val.ZSet ++ [_]).length < _; rw [List.length_append, List.length_singleton]; omega, by show sumL c7 (e.Val.ZSet ++ [_]) < _; rw [sumL_append, sumL_one]; unfold Go.Pu.c7 at *; simp only; omega⟩, ?_, by omega⟩
         unfold kindN
         rw [if_neg k1, if_neg k1, if_neg k2, if_neg k2, if_neg k4, if_neg k4, if_neg k3, if_neg k3, if_pos k5, if_pos k5, sumL_append, sumL_one]
         rfl
        ·rw [if_neg k5]
         exact ⟨0, e.Val.Text, e.Val.List_, e.Val.Hash, e.Val.ZSet, rfl, hok, rfl, by omega⟩
   obtain ⟨by_, T, L, H, Z, e1, hok2, hkn, hby⟩ := step
   rw [e1, Option.bind_some]
   show ((((charge.Of { e with Val := { Kind := e.Val.Kind, Text := T, List_ := L, Hash := H, ZSet := Z } }).bind _).bind _) : Option Bool) = _
   have hof2 : ofM { e with Val := { Kind := e.Val.Kind, Text := T, List_ := L, Hash := H, ZSet := Z } } = ofM e + by_ := by
    unfold ofM
    show 56 + e.Key.length + (if e.At = 0 then 0 else 16) + kindN { Kind := e.Val.Kind, Text := T, List_ := L, Hash := H, ZSet := Z } = _
    rw [hkn]
    omega
   rw [Of_eq hok2, hof2, Option.bind_some]
   show ((if ((ofM e + by_ : Nat) : Int) = IntKind.wrap .i64 ((ofM e : Int) + (by_ : Int)) then some (decide ((ofM e : Int) < 56)) else some true : Option Bool).bind _) = _
   rw [i64w (n := (ofM e : Int) + by_) (by omega) (by omega), if_pos (by omega), Option.bind_some, decide_eq_false (by omega), if_neg (by decide)]
   unfold letO
   have hok3 : Okay { e with At := 0 } := ⟨hok.k, hok.t, hok.l, hok.l1, hok.l3, hok.h, hok.h1, hok.z, hok.z1⟩
   show (((charge.Of { e with At := 0 }).bind _).bind _) = _
   rw [Of_eq hok3, Option.bind_some]
   have hlast : (if e.At = 0 then (ofM e : Int) else IntKind.wrap .i64 ((ofM e : Int) - 16)) = (ofM { e with At := 0 } : Int) := by
    have h3 : ofM { e with At := 0 } = 56 + e.Key.length + 0 + kindN e.Val := rfl
    by_cases ha : e.At = 0
    ·rw [if_pos ha, h3]
     unfold ofM
     rw [if_pos ha]
    ·rw [if_neg ha, i64w (by omega) (by omega), h3]
     unfold ofM
     rw [if_neg ha]
     omega
   rw [if_pos hlast]
   rfl

theorem fits_wf {v : api.Value} (h : api.Value.wf v) : FitsV v := by
 obtain ⟨_, h2, ⟨h3, h3'⟩, ⟨h4, h4'⟩, ⟨h5, h5'⟩, _⟩ := h
 refine ⟨by omega, by omega, fun x hx => ?_, by omega, fun x hx => ?_, by omega, fun x hx => ?_⟩
 ·have := h3' x hx
  unfold gS
  omega
 ·obtain ⟨a, b, _⟩ := h4' x hx
  unfold gF
  omega
 ·obtain ⟨a, _⟩ := h5' x hx
  unfold gZ
  omega

end Go.Pu

namespace Go.Pu.Pure
open Go.Lift Go.Pu
theorem ChargeMore {a0 : api.Entry} {a1 : List UInt8} {a2 : api.Field} (h0 : api.Entry.wf a0) (h1 : a1.length ≤ 140737488351232) (h2 : api.Field.wf a2) : mewslaw19.ChargeMore a0 a1 a2 = some true :=
 ChargeMore_pure a0 a1 a2 (fits_wf h0.2.1) (by have := h0.1; omega) (by omega) (by
  obtain ⟨h3, h4, _⟩ := h2
  omega)
end Go.Pu.Pure
