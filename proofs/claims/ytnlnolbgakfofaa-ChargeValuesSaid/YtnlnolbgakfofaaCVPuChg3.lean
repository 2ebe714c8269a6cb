import Derived.Test.YtnlnolbgakfofaaCVPuChg2
set_option maxHeartbeats 0
set_option maxRecDepth 100000
namespace Go.Pu
open Go.Lift

theorem eq_pS (a b : List (List UInt8)) (h : a.length ≤ 1000000000000000) : slices.Equal_string a b = some (decide (a = b)) := by
 unfold slices.Equal_string
 by_cases hl : a.length = b.length
 ·rw [if_pos (by omega)]
  unfold slices.Equal_string.loop0
  rw [whileO_anyE ⟨0⟩ (fun i => (⟨(i : Int)⟩ : slices.Equal_string.S0)) a.length (fun i => a[i]? ≠ b[i]?) (.inr false) (.inl ()) ?_ ?_]
  ·simp only [Option.bind_some]
   by_cases he : a = b
   ·rw [if_neg (by rintro ⟨i, _, h2⟩; exact h2 (by rw [he])), decide_eq_true he]; rfl
   ·rw [if_pos, decide_eq_false he]
    ·rfl
    ·refine Classical.byContradiction fun hn => he (List.ext_getElem? fun i => ?_)
     by_cases hi : i < a.length
     ·exact Classical.byContradiction fun h2 => hn ⟨i, hi, h2⟩
     ·rw [List.getElem?_eq_none (by omega), List.getElem?_eq_none (by omega)]
  ·intro i hi
   unfold slices.Equal_string.body0
   simp only
   rw [if_pos (by omega), need_eq ⟨by omega, by omega⟩, need_eq ⟨by omega, by omega⟩, ix_get hi, ix_get (show i < b.length by omega), i64w (by omega) (by omega)]
   rw [List.getElem?_eq_getElem hi, List.getElem?_eq_getElem (show i < b.length by omega)]
   by_cases he : a[i] = b[i]
   ·rw [if_pos he, if_neg (by rw [he]; simp)]; rfl
   ·rw [if_neg he, if_pos (by simpa using he)]
  ·unfold slices.Equal_string.body0
   simp
 ·rw [if_neg (by omega), decide_eq_false (fun e => hl (by rw [e]))]

theorem eq_pF (a b : List (api.Field)) (h : a.length ≤ 1000000000000000) : slices.Equal_api_Field a b = some (decide (a = b)) := by
 unfold slices.Equal_api_Field
 by_cases hl : a.length = b.length
 ·rw [if_pos (by omega)]
  unfold slices.Equal_api_Field.loop0
  rw [whileO_anyE ⟨0⟩ (fun i => (⟨(i : Int)⟩ : slices.Equal_api_Field.S0)) a.length (fun i => a[i]? ≠ b[i]?) (.inr false) (.inl ()) ?_ ?_]
  ·simp only [Option.bind_some]
   by_cases he : a = b
   ·rw [if_neg (by rintro ⟨i, _, h2⟩; exact h2 (by rw [he])), decide_eq_true he]; rfl
   ·rw [if_pos, decide_eq_false he]
    ·rfl
    ·refine Classical.byContradiction fun hn => he (List.ext_getElem? fun i => ?_)
     by_cases hi : i < a.length
     ·exact Classical.byContradiction fun h2 => hn ⟨i, hi, h2⟩
     ·rw [List.getElem?_eq_none (by omega), List.getElem?_eq_none (by omega)]
  ·intro i hi
   unfold slices.Equal_api_Field.body0
   simp only
   rw [if_pos (by omega), need_eq ⟨by omega, by omega⟩, need_eq ⟨by omega, by omega⟩, ix_get hi, ix_get (show i < b.length by omega), i64w (by omega) (by omega)]
   rw [List.getElem?_eq_getElem hi, List.getElem?_eq_getElem (show i < b.length by omega)]
   by_cases he : a[i] = b[i]
   ·rw [if_pos he, if_neg (by rw [he]; simp)]; rfl
   ·rw [if_neg he, if_pos (by simpa using he)]
  ·unfold slices.Equal_api_Field.body0
   simp
 ·rw [if_neg (by omega), decide_eq_false (fun e => hl (by rw [e]))]

theorem eq_pZ (a b : List (api.Scored)) (h : a.length ≤ 1000000000000000) : slices.Equal_api_Scored a b = some (decide (a = b)) := by
 unfold slices.Equal_api_Scored
 by_cases hl : a.length = b.length
 ·rw [if_pos (by omega)]
  unfold slices.Equal_api_Scored.loop0
  rw [whileO_anyE ⟨0⟩ (fun i => (⟨(i : Int)⟩ : slices.Equal_api_Scored.S0)) a.length (fun i => a[i]? ≠ b[i]?) (.inr false) (.inl ()) ?_ ?_]
  ·simp only [Option.bind_some]
   by_cases he : a = b
   ·rw [if_neg (by rintro ⟨i, _, h2⟩; exact h2 (by rw [he])), decide_eq_true he]; rfl
   ·rw [if_pos, decide_eq_false he]
    ·rfl
    ·refine Classical.byContradiction fun hn => he (List.ext_getElem? fun i => ?_)
     by_cases hi : i < a.length
     ·exact Classical.byContradiction fun h2 => hn ⟨i, hi, h2⟩
     ·rw [List.getElem?_eq_none (by omega), List.getElem?_eq_none (by omega)]
  ·intro i hi
   unfold slices.Equal_api_Scored.body0
   simp only
   rw [if_pos (by omega), need_eq ⟨by omega, by omega⟩, need_eq ⟨by omega, by omega⟩, ix_get hi, ix_get (show i < b.length by omega), i64w (by omega) (by omega)]
   rw [List.getElem?_eq_getElem hi, List.getElem?_eq_getElem (show i < b.length by omega)]
   by_cases he : a[i] = b[i]
   ·rw [if_pos he, if_neg (by rw [he]; simp)]; rfl
   ·rw [if_neg he, if_pos (by simpa using he)]
  ·unfold slices.Equal_api_Scored.body0
   simp
 ·rw [if_neg (by omega), decide_eq_false (fun e => hl (by rw [e]))]

theorem eq_rS (a b : List (List UInt8)) (h : a.length ≤ 1000000000000000) : mewsref19.texts a b = some (decide (a = b)) := by
 unfold mewsref19.texts
 by_cases hl : a.length = b.length
 ·rw [if_pos (by omega)]
  unfold mewsref19.texts.loop0
  rw [whileO_anyE ⟨0⟩ (fun i => (⟨(i : Int)⟩ : mewsref19.texts.S0)) a.length (fun i => a[i]? ≠ b[i]?) (.inr false) (.inl ()) ?_ ?_]
  ·simp only [Option.bind_some]
   by_cases he : a = b
   ·rw [if_neg (by rintro ⟨i, _, h2⟩; exact h2 (by rw [he])), decide_eq_true he]; rfl
   ·rw [if_pos, decide_eq_false he]
    ·rfl
    ·refine Classical.byContradiction fun hn => he (List.ext_getElem? fun i => ?_)
     by_cases hi : i < a.length
     ·exact Classical.byContradiction fun h2 => hn ⟨i, hi, h2⟩
     ·rw [List.getElem?_eq_none (by omega), List.getElem?_eq_none (by omega)]
  ·intro i hi
   unfold mewsref19.texts.body0
   simp only
   rw [if_pos (by omega), need_eq ⟨by omega, by omega⟩, need_eq ⟨by omega, by omega⟩, ix_get hi, ix_get (show i < b.length by omega), i64w (by omega) (by omega)]
   rw [List.getElem?_eq_getElem hi, List.getElem?_eq_getElem (show i < b.length by omega)]
   by_cases he : a[i] = b[i]
   ·rw [if_pos he, if_neg (by rw [he]; simp)]; rfl
   ·rw [if_neg he, if_pos (by simpa using he)]
  ·unfold mewsref19.texts.body0
   simp
 ·rw [if_neg (by omega), decide_eq_false (fun e => hl (by rw [e]))]

theorem eq_rF (a b : List (api.Field)) (h : a.length ≤ 1000000000000000) : mewsref19.fields a b = some (decide (a = b)) := by
 unfold mewsref19.fields
 by_cases hl : a.length = b.length
 ·rw [if_pos (by omega)]
  unfold mewsref19.fields.loop0
  rw [whileO_anyE ⟨0⟩ (fun i => (⟨(i : Int)⟩ : mewsref19.fields.S0)) a.length (fun i => a[i]? ≠ b[i]?) (.inr false) (.inl ()) ?_ ?_]
  ·simp only [Option.bind_some]
   by_cases he : a = b
   ·rw [if_neg (by rintro ⟨i, _, h2⟩; exact h2 (by rw [he])), decide_eq_true he]; rfl
   ·rw [if_pos, decide_eq_false he]
    ·rfl
    ·refine Classical.byContradiction fun hn => he (List.ext_getElem? fun i => ?_)
     by_cases hi : i < a.length
     ·exact Classical.byContradiction fun h2 => hn ⟨i, hi, h2⟩
     ·rw [List.getElem?_eq_none (by omega), List.getElem?_eq_none (by omega)]
  ·intro i hi
   unfold mewsref19.fields.body0
   simp only
   rw [if_pos (by omega), need_eq ⟨by omega, by omega⟩, need_eq ⟨by omega, by omega⟩, ix_get hi, ix_get (show i < b.length by omega), i64w (by omega) (by omega)]
   rw [List.getElem?_eq_getElem hi, List.getElem?_eq_getElem (show i < b.length by omega)]
   by_cases he : a[i] = b[i]
   ·rw [if_pos he, if_neg (by rw [he]; simp)]; rfl
   ·rw [if_neg he, if_pos (by simpa using he)]
  ·unfold mewsref19.fields.body0
   simp
 ·rw [if_neg (by omega), decide_eq_false (fun e => hl (by rw [e]))]

theorem eq_rZ (a b : List (api.Scored)) (h : a.length ≤ 1000000000000000) : mewsref10.Same a b = some (decide (a = b)) := by
 unfold mewsref10.Same
 by_cases hl : a.length = b.length
 ·rw [if_pos (by omega)]
  unfold mewsref10.Same.loop0
  rw [whileO_anyE ⟨0⟩ (fun i => (⟨(i : Int)⟩ : mewsref10.Same.S0)) a.length (fun i => a[i]? ≠ b[i]?) (.inr false) (.inl ()) ?_ ?_]
  ·simp only [Option.bind_some]
   by_cases he : a = b
   ·rw [if_neg (by rintro ⟨i, _, h2⟩; exact h2 (by rw [he])), decide_eq_true he]; rfl
   ·rw [if_pos, decide_eq_false he]
    ·rfl
    ·refine Classical.byContradiction fun hn => he (List.ext_getElem? fun i => ?_)
     by_cases hi : i < a.length
     ·exact Classical.byContradiction fun h2 => hn ⟨i, hi, h2⟩
     ·rw [List.getElem?_eq_none (by omega), List.getElem?_eq_none (by omega)]
  ·intro i hi
   unfold mewsref10.Same.body0
   simp only
   rw [if_pos (by omega), need_eq ⟨by omega, by omega⟩, need_eq ⟨by omega, by omega⟩, ix_get hi, ix_get (show i < b.length by omega), i64w (by omega) (by omega)]
   rw [List.getElem?_eq_getElem hi, List.getElem?_eq_getElem (show i < b.length by omega)]
   by_cases he : a[i] = b[i]
   ·rw [if_pos he, if_neg (by rw [he]; simp)]; rfl
   ·rw [if_neg he, if_pos (by simpa using he)]
  ·unfold mewsref10.Same.body0
   simp
 ·rw [if_neg (by omega), decide_eq_false (fun e => hl (by rw [e]))]

theorem value_eq_iff (a b : api.Value) : a = b ↔ a.Kind = b.Kind ∧ a.Text = b.Text ∧ a.List_ = b.List_ ∧ a.Hash = b.Hash ∧ a.ZSet = b.ZSet := by
 cases a; cases b; simp

theorem same_eq (a b : api.Value) (h1 : a.List_.length ≤ 1000000000000000) (h2 : a.Hash.length ≤ 1000000000000000) (h3 : a.ZSet.length ≤ 1000000000000000) : charge.Same a b = some (decide (a = b)) := by
 unfold charge.Same
 rw [eq_pS _ _ h1, eq_pF _ _ h2, eq_pZ _ _ h3]
 by_cases e1 : a.Kind = b.Kind
 ·by_cases e2 : a.Text = b.Text
  ·by_cases e3 : a.List_ = b.List_
   ·by_cases e4 : a.Hash = b.Hash
    ·by_cases e5 : a.ZSet = b.ZSet
     ·have : a = b := (value_eq_iff a b).2 ⟨e1, e2, e3, e4, e5⟩
      simp [this]
     ·have : a ≠ b := fun h => e5 ((value_eq_iff a b).1 h).2.2.2.2
      simp [e1, e2, e3, e4, e5, this]
    ·have : a ≠ b := fun h => e4 ((value_eq_iff a b).1 h).2.2.2.1
     simp [e1, e2, e3, e4, this]
   ·have : a ≠ b := fun h => e3 ((value_eq_iff a b).1 h).2.2.1
    simp [e1, e2, e3, this]
  ·have : a ≠ b := fun h => e2 ((value_eq_iff a b).1 h).2.1
   simp [e1, e2, this]
 ·have : a ≠ b := fun h => e1 ((value_eq_iff a b).1 h).1
  simp [e1, this]

theorem rsame_eq (a b : api.Value) (h1 : a.List_.length ≤ 1000000000000000) (h2 : a.Hash.length ≤ 1000000000000000) (h3 : a.ZSet.length ≤ 1000000000000000) : mewsref19.Same a b = some (decide (a = b)) := by
 unfold mewsref19.Same
 rw [eq_rS _ _ h1, eq_rF _ _ h2, eq_rZ _ _ h3]
 by_cases e1 : a.Kind = b.Kind
 ·by_cases e2 : a.Text = b.Text
  ·by_cases e3 : a.List_ = b.List_
   ·by_cases e4 : a.Hash = b.Hash
    ·by_cases e5 : a.ZSet = b.ZSet
     ·have : a = b := (value_eq_iff a b).2 ⟨e1, e2, e3, e4, e5⟩
      simp [this]
     ·have : a ≠ b := fun h => e5 ((value_eq_iff a b).1 h).2.2.2.2
      simp [e1, e2, e3, e4, e5, this]
    ·have : a ≠ b := fun h => e4 ((value_eq_iff a b).1 h).2.2.2.1
     simp [e1, e2, e3, e4, this]
   ·have : a ≠ b := fun h => e3 ((value_eq_iff a b).1 h).2.2.1
    simp [e1, e2, e3, this]
  ·have : a ≠ b := fun h => e2 ((value_eq_iff a b).1 h).2.1
   simp [e1, e2, this]
 ·have : a ≠ b := fun h => e1 ((value_eq_iff a b).1 h).1
  simp [e1, this]

/-! ### The reference's charge -/
def cK (k : Nat) (x : Str) : Nat := 8 + 4 * k + x.length
theorem rof_loop0 (e : api.Entry) (k n0 : Nat) (hk : e.Val.Kind = (k : Int)) (hk4 : k = 2 ∨ k = 4) (hb : n0 + sumL (cK k) e.Val.List_ < 4000000000000000000) (hl : e.Val.List_.length < 1000000000000000) : mewsref19.Of.loop0 e ⟨(n0 : Int), 0⟩ = some ((n0 + sumL (cK k) e.Val.List_ : Nat) : Int) := by
 unfold mewsref19.Of.loop0
 refine whileO_knownE _ (fun i => (⟨((n0 + sumL (cK k) (e.Val.List_.take i) : Nat) : Int), (i : Int)⟩ : mewsref19.Of.S0)) e.Val.List_.length (fun i hi => ?_) ?_ (by simp [sumL])
 ·have h1 := sumL_take (cK k) e.Val.List_ (i + 1)
  have h2 := sumL_succ (cK k) hi
  unfold mewsref19.Of.body0 letO
  show (if (if (i : Int) < (e.Val.List_.length : Int) then if e.Val.Kind = 2 then true else decide (e.Val.Kind = 4) else false) = true then _ else _) = _
  have hg : (if (i : Int) < (e.Val.List_.length : Int) then if e.Val.Kind = 2 then true else decide (e.Val.Kind = 4) else false) = true := by
   rw [if_pos (by omega)]
   rcases hk4 with rfl | rfl
   ·rw [if_pos (show e.Val.Kind = 2 from hk)]
   ·rw [if_neg (by omega)]; exact decide_eq_true hk
  rw [if_pos hg]
  show need (InB (i : Int) e.Val.List_.length) (some (Sum.inl (⟨IntKind.wrap .i64 (((n0 + sumL (cK k) (e.Val.List_.take i) : Nat) : Int) + (IntKind.wrap .i64 ((IntKind.wrap .i64 (8 + (IntKind.wrap .i64 (4 * e.Val.Kind)))) + ((ix e.Val.List_ (i : Int)).length : Int)))), IntKind.wrap .i64 ((i : Int) + 1)⟩ : mewsref19.Of.S0))) = some (Sum.inl (⟨((n0 + sumL (cK k) (e.Val.List_.take (i + 1)) : Nat) : Int), ((i + 1 : Nat) : Int)⟩ : mewsref19.Of.S0))
  rw [need_eq ⟨by omega, by omega⟩, ix_get hi, hk]
  generalize sumL (cK k) (e.Val.List_.take (i + 1)) = B at h1 h2
  generalize sumL (cK k) (e.Val.List_.take i) = A at h2
  unfold cK at h2
  rw [i64w (n := 4 * (k : Int)) (by omega) (by omega), i64w (n := 8 + _) (by omega) (by omega), i64w (n := 8 + _ + _) (by omega) (by omega), i64w (by omega) (by omega), i64w (by omega) (by omega)]
  congr 3 <;> omega
 ·unfold mewsref19.Of.body0 letO
  show (if (if (e.Val.List_.length : Int) < (e.Val.List_.length : Int) then if e.Val.Kind = 2 then true else decide (e.Val.Kind = 4) else false) = true then _ else _) = _
  rw [if_neg (by rw [if_neg (by omega)]; decide), List.take_length]

theorem rof_no0 (e : api.Entry) (n0 : Int) (h2 : e.Val.Kind ≠ 2) (h4 : e.Val.Kind ≠ 4) : mewsref19.Of.loop0 e ⟨n0, 0⟩ = some n0 := by
 unfold mewsref19.Of.loop0
 refine whileO_end ?_
 unfold mewsref19.Of.body0 letO
 have hg : ¬ (if (0 : Int) < (e.Val.List_.length : Int) then if e.Val.Kind = 2 then true else decide (e.Val.Kind = 4) else false) = true := by
  rw [if_neg h2, decide_eq_false h4]
  split <;> decide
 exact if_neg hg

theorem rof_loop2 (e : api.Entry) (n0 : Nat) (hk : e.Val.Kind = 3) (hb : n0 + sumL c5 e.Val.Hash < 4000000000000000000) (hl : e.Val.Hash.length < 1000000000000000) : mewsref19.Of.loop2 e ⟨(n0 : Int), 0⟩ = some ((n0 + sumL c5 e.Val.Hash : Nat) : Int) := by
 unfold mewsref19.Of.loop2
 refine whileO_knownE _ (fun i => (⟨((n0 + sumL c5 (e.Val.Hash.take i) : Nat) : Int), (i : Int)⟩ : mewsref19.Of.S2)) e.Val.Hash.length (fun i hi => ?_) ?_ (by simp [sumL])
 ·have h1 := sumL_take c5 e.Val.Hash (i + 1)
  have h2 := sumL_succ c5 hi
  unfold mewsref19.Of.body2 letO
  show (if (if (i : Int) < (e.Val.Hash.length : Int) then decide (e.Val.Kind = 3) else false) = true then _ else _) = _
  rw [if_pos (by rw [if_pos (by omega)]; exact decide_eq_true hk)]
  show need (InB (i : Int) e.Val.Hash.length) (need (InB (i : Int) e.Val.Hash.length) (some (Sum.inl (⟨IntKind.wrap .i64 (((n0 + sumL c5 (e.Val.Hash.take i) : Nat) : Int) + (IntKind.wrap .i64 ((IntKind.wrap .i64 (32 + ((ix e.Val.Hash (i : Int)).Key.length : Int))) + ((ix e.Val.Hash (i : Int)).Val.length : Int)))), IntKind.wrap .i64 ((i : Int) + 1)⟩ : mewsref19.Of.S2)))) = some (Sum.inl (⟨((n0 + sumL c5 (e.Val.Hash.take (i + 1)) : Nat) : Int), ((i + 1 : Nat) : Int)⟩ : mewsref19.Of.S2))
  rw [need_eq ⟨by omega, by omega⟩, need_eq ⟨by omega, by omega⟩, ix_get hi]
  generalize sumL c5 (e.Val.Hash.take (i + 1)) = B at h1 h2
  generalize sumL c5 (e.Val.Hash.take i) = A at h2
  unfold c5 at h2
  rw [i64w (n := 32 + _) (by omega) (by omega), i64w (n := 32 + _ + _) (by omega) (by omega), i64w (by omega) (by omega), i64w (by omega) (by omega)]
  congr 3 <;> omega
 ·unfold mewsref19.Of.body2 letO
  show (if (if (e.Val.Hash.length : Int) < (e.Val.Hash.length : Int) then decide (e.Val.Kind = 3) else false) = true then _ else _) = _
  rw [if_neg (by rw [if_neg (by omega)]; decide), List.take_length]

theorem rof_no2 (e : api.Entry) (n0 : Int) (h : e.Val.Kind ≠ 3) : mewsref19.Of.loop2 e ⟨n0, 0⟩ = some n0 := by
 unfold mewsref19.Of.loop2
 refine whileO_end ?_
 unfold mewsref19.Of.body2 letO
 have hg : ¬ (if (0 : Int) < (e.Val.Hash.length : Int) then decide (e.Val.Kind = 3) else false) = true := by
  rw [decide_eq_false h]
  split <;> decide
 exact if_neg hg

theorem rof_loop4 (e : api.Entry) (n0 : Nat) (hk : e.Val.Kind = 5) (hb : n0 + sumL c7 e.Val.ZSet < 4000000000000000000) (hl : e.Val.ZSet.length < 1000000000000000) : mewsref19.Of.loop4 e ⟨(n0 : Int), 0⟩ = some ((n0 + sumL c7 e.Val.ZSet : Nat) : Int) := by
 unfold mewsref19.Of.loop4
 refine whileO_knownE _ (fun i => (⟨((n0 + sumL c7 (e.Val.ZSet.take i) : Nat) : Int), (i : Int)⟩ : mewsref19.Of.S4)) e.Val.ZSet.length (fun i hi => ?_) ?_ (by simp [sumL])
 ·have h1 := sumL_take c7 e.Val.ZSet (i + 1)
  have h2 := sumL_succ c7 hi
  unfold mewsref19.Of.body4 letO
  show (if (if (i : Int) < (e.Val.ZSet.length : Int) then decide (e.Val.Kind = 5) else false) = true then _ else _) = _
  rw [if_pos (by rw [if_pos (by omega)]; exact decide_eq_true hk)]
  show need (InB (i : Int) e.Val.ZSet.length) (some (Sum.inl (⟨IntKind.wrap .i64 (((n0 + sumL c7 (e.Val.ZSet.take i) : Nat) : Int) + (IntKind.wrap .i64 (40 + ((ix e.Val.ZSet (i : Int)).Member.length : Int)))), IntKind.wrap .i64 ((i : Int) + 1)⟩ : mewsref19.Of.S4))) = some (Sum.inl (⟨((n0 + sumL c7 (e.Val.ZSet.take (i + 1)) : Nat) : Int), ((i + 1 : Nat) : Int)⟩ : mewsref19.Of.S4))
  rw [need_eq ⟨by omega, by omega⟩, ix_get hi]
  generalize sumL c7 (e.Val.ZSet.take (i + 1)) = B at h1 h2
  generalize sumL c7 (e.Val.ZSet.take i) = A at h2
  unfold c7 at h2
  rw [i64w (n := 40 + _) (by omega) (by omega), i64w (by omega) (by omega), i64w (by omega) (by omega)]
  congr 3 <;> omega
 ·unfold mewsref19.Of.body4 letO
  show (if (if (e.Val.ZSet.length : Int) < (e.Val.ZSet.length : Int) then decide (e.Val.Kind = 5) else false) = true then _ else _) = _
  rw [if_neg (by rw [if_neg (by omega)]; decide), List.take_length]

theorem rof_no4 (e : api.Entry) (n0 : Int) (h : e.Val.Kind ≠ 5) : mewsref19.Of.loop4 e ⟨n0, 0⟩ = some n0 := by
 unfold mewsref19.Of.loop4
 refine whileO_end ?_
 unfold mewsref19.Of.body4 letO
 have hg : ¬ (if (0 : Int) < (e.Val.ZSet.length : Int) then decide (e.Val.Kind = 5) else false) = true := by
  rw [decide_eq_false h]
  split <;> decide
 exact if_neg hg

theorem sumL_congr {α : Type} {f g : α → Nat} (h : ∀ x, f x = g x) (l : List α) : sumL f l = sumL g l := by
 rw [show f = g from funext h]

theorem rOf_eq {e : api.Entry} (h : Okay e) : mewsref19.Of e = some (ofM e : Int) := by
 obtain ⟨k, t, l, l1, l3, hh, h1, z, z1⟩ := h
 unfold mewsref19.Of letO
 have h0 : (if e.At = 0 then IntKind.wrap .i64 (56 + (e.Key.length : Int)) else IntKind.wrap .i64 ((IntKind.wrap .i64 (56 + (e.Key.length : Int))) + 16)) = ((56 + e.Key.length + (if e.At = 0 then 0 else 16) : Nat) : Int) := by
  rw [i64w (n := 56 + (e.Key.length : Int)) (by omega) (by omega), i64w (by omega) (by omega)]
  by_cases ha : e.At = 0
  ·rw [if_pos ha, if_pos ha]; omega
  ·rw [if_neg ha, if_neg ha]; omega
 have hb : 56 + e.Key.length + (if e.At = 0 then 0 else 16) < 2000000000000000 := by split <;> omega
 show ((mewsref19.Of.loop0 e ⟨(if e.At = 0 then IntKind.wrap .i64 (56 + (e.Key.length : Int)) else IntKind.wrap .i64 ((IntKind.wrap .i64 (56 + (e.Key.length : Int))) + 16)), 0⟩).bind _) = _
 rw [h0]
 unfold ofM kindN
 generalize 56 + e.Key.length + (if e.At = 0 then 0 else 16) = n0 at hb
 have e16 : sumL (cK 2) e.Val.List_ = sumL c1 e.Val.List_ := sumL_congr (fun x => by unfold cK c1; omega) _
 have e24 : sumL (cK 4) e.Val.List_ = sumL c3 e.Val.List_ := sumL_congr (fun x => by unfold cK c3; omega) _
 by_cases k1 : e.Val.Kind = 1
 ·rw [if_pos k1, rof_no0 e _ (by omega) (by omega), Option.bind_some, rof_no2 e _ (by omega), Option.bind_some, rof_no4 e _ (by omega), Option.bind_some, if_pos k1, i64w (by omega) (by omega)]
  congr 1
 ·rw [if_neg k1]
  by_cases k2 : e.Val.Kind = 2
  ·rw [if_pos k2, rof_loop0 e 2 n0 k2 (.inl rfl) (by omega) l, Option.bind_some, rof_no2 e _ (by omega), Option.bind_some, rof_no4 e _ (by omega), Option.bind_some, if_neg k1, e16]
  ·rw [if_neg k2]
   by_cases k4 : e.Val.Kind = 4
   ·rw [if_pos k4, rof_loop0 e 4 n0 k4 (.inr rfl) (by omega) l, Option.bind_some, rof_no2 e _ (by omega), Option.bind_some, rof_no4 e _ (by omega), Option.bind_some, if_neg k1, e24]
   ·rw [if_neg k4, rof_no0 e _ k2 k4, Option.bind_some]
    by_cases k3 : e.Val.Kind = 3
    ·rw [if_pos k3, rof_loop2 e n0 k3 (by omega) hh, Option.bind_some, rof_no4 e _ (by omega), Option.bind_some, if_neg k1]
    ·rw [if_neg k3, rof_no2 e _ k3, Option.bind_some]
     by_cases k5 : e.Val.Kind = 5
     ·rw [if_pos k5, rof_loop4 e n0 k5 (by omega) z, Option.bind_some, if_neg k1]
     ·rw [if_neg k5, rof_no4 e _ k5, Option.bind_some, if_neg k1]
      rfl

theorem all2_eq {e : api.Entry} (h : Okay e) (hs : ofM e < 1000000000000000) : charge.All [e, e] = some (2 * (ofM e : Int)) := by
 unfold charge.All charge.All.loop0
 have b0 : charge.All.body0 [e, e] ⟨0, 0⟩ = some (.inl ⟨(ofM e : Int), 1⟩) := by
  unfold charge.All.body0
  rw [if_pos (by show (0 : Int) < 2; decide), need_eq (by show (0 : Int) ≤ 0 ∧ (0 : Int) < 2; decide)]
  show ((charge.Of e).bind _) = _
  rw [Of_eq h, Option.bind_some]
  show some (Sum.inl (⟨IntKind.wrap .i64 (0 + (ofM e : Int)), _⟩ : charge.All.S0)) = _
  rw [i64w (by omega) (by omega), Int.zero_add]
  rfl
 have b1 : charge.All.body0 [e, e] ⟨(ofM e : Int), 1⟩ = some (.inl ⟨2 * (ofM e : Int), 2⟩) := by
  unfold charge.All.body0
  rw [if_pos (by show (1 : Int) < 2; decide), need_eq (by show (0 : Int) ≤ 1 ∧ (1 : Int) < 2; decide)]
  show ((charge.Of e).bind _) = _
  rw [Of_eq h, Option.bind_some]
  show some (Sum.inl (⟨IntKind.wrap .i64 ((ofM e : Int) + (ofM e : Int)), _⟩ : charge.All.S0)) = _
  rw [i64w (by omega) (by omega), show (ofM e : Int) + (ofM e : Int) = 2 * (ofM e : Int) by omega]
  rfl
 rw [whileO_next b0 (whileO_next b1 (whileO_end (r := 2 * (ofM e : Int)) rfl))]
 rfl

end Go.Pu
