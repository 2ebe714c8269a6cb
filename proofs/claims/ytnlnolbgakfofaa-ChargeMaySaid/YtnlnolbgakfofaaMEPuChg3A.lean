import Derived.Test.YtnlnolbgakfofaaMEPuChg1
set_option maxHeartbeats 0
set_option maxRecDepth 100000
namespace Go.Pu
open Go.Lift

theorem eq_pS (a b : List (List UInt8)) (h : a.length ≤ 1000000000000000) : slices.Equal_string a b = some (decide (a = b)) := by
 unfold slices.Equal_string
 by_cases hl : a.length = b.length
 ·rw [if_pos (by omega)]
  unfold slices.Equal_string.loop0
  rw [whileO_anyE ⟨0⟩ (fun i => (⟨(i : Int)⟩ : slices.Equal_string.S0)) a.length (fun i => a[i]? ≠ b[i]?) (.inr false) (.inl ()) ?_ ?_]
  ·simp only [Option.bind_some]
   by_cases he : a = b
   ·rw [if_neg (by rintro ⟨i, _, h2⟩; exact h2 (by rw [he])), decide_eq_true he]; rfl
   ·rw [if_pos, decide_eq_false he]
    ·rfl
    ·refine Classical.byContradiction fun hn => he (List.ext_getElem? fun i => ?_)
     by_cases hi : i < a.length
     ·exact Classical.byContradiction fun h2 => hn ⟨i, hi, h2⟩
     ·rw [List.getElem?_eq_none (by omega), List.getElem?_eq_none (by omega)]
  ·intro i hi
   unfold slices.Equal_string.body0
   simp only
   rw [if_pos (by omega), need_eq ⟨by omega, by omega⟩, need_eq ⟨by omega, by omega⟩, ix_get hi, ix_get (show i < b.length by omega), i64w (by omega) (by omega)]
   rw [List.getElem?_eq_getElem hi, List.getElem?_eq_getElem (show i < b.length by omega)]
   by_cases he : a[i] = b[i]
   ·rw [if_pos he, if_neg (by rw [he]; simp)]; rfl
   ·rw [if_neg he, if_pos (by simpa using he)]
  ·unfold slices.Equal_string.body0
   simp
 ·rw [if_neg (by omega), decide_eq_false (fun e => hl (by rw [e]))]

theorem eq_pF (a b : List (api.Field)) (h : a.length ≤ 1000000000000000) : slices.Equal_api_Field a b = some (decide (a = b)) := by
 unfold slices.Equal_api_Field
 by_cases hl : a.length = b.length
 ·rw [if_pos (by omega)]
  unfold slices.Equal_api_Field.loop0
  rw [whileO_anyE ⟨0⟩ (fun i => (⟨(i : Int)⟩ : slices.Equal_api_Field.S0)) a.length (fun i => a[i]? ≠ b[i]?) (.inr false) (.inl ()) ?_ ?_]
  ·simp only [Option.bind_some]
   by_cases he : a = b
   ·rw [if_neg (by rintro ⟨i, _, h2⟩; exact h2 (by rw [he])), decide_eq_true he]; rfl
   ·rw [if_pos, decide_eq_false he]
    ·rfl
    ·refine Classical.byContradiction fun hn => he (List.ext_getElem? fun i => ?_)
     by_cases hi : i < a.length
     ·exact Classical.byContradiction fun h2 => hn ⟨i, hi, h2⟩
     ·rw [List.getElem?_eq_none (by omega), List.getElem?_eq_none (by omega)]
  ·intro i hi
   unfold slices.Equal_api_Field.body0
   simp only
   rw [if_pos (by omega), need_eq ⟨by omega, by omega⟩, need_eq ⟨by omega, by omega⟩, ix_get hi, ix_get (show i < b.length by omega), i64w (by omega) (by omega)]
   rw [List.getElem?_eq_getElem hi, List.getElem?_eq_getElem (show i < b.length by omega)]
   by_cases he : a[i] = b[i]
   ·rw [if_pos he, if_neg (by rw [he]; simp)]; rfl
   ·rw [if_neg he, if_pos (by simpa using he)]
  ·unfold slices.Equal_api_Field.body0
   simp
 ·rw [if_neg (by omega), decide_eq_false (fun e => hl (by rw [e]))]

theorem eq_pZ (a b : List (api.Scored)) (h : a.length ≤ 1000000000000000) : slices.Equal_api_Scored a b = some (decide (a = b)) := by
 unfold slices.Equal_api_Scored
 by_cases hl : a.length = b.length
 ·rw [if_pos (by omega)]
  unfold slices.Equal_api_Scored.loop0
  rw [whileO_anyE ⟨0⟩ (fun i => (⟨(i : Int)⟩ : slices.Equal_api_Scored.S0)) a.length (fun i => a[i]? ≠ b[i]?) (.inr false) (.inl ()) ?_ ?_]
  ·simp only [Option.bind_some]
   by_cases he : a = b
   ·rw [if_neg (by rintro ⟨i, _, h2⟩; exact h2 (by rw [he])), decide_eq_true he]; rfl
   ·rw [if_pos, decide_eq_false he]
    ·rfl
    ·refine Classical.byContradiction fun hn => he (List.ext_getElem? fun i => ?_)
     by_cases hi : i < a.length
     ·exact Classical.byContradiction fun h2 => hn ⟨i, hi, h2⟩
     ·rw [List.getElem?_eq_none (by omega), List.getElem?_eq_none (by omega)]
  ·intro i hi
   unfold slices.Equal_api_Scored.body0
   simp only
   rw [if_pos (by omega), need_eq ⟨by omega, by omega⟩, need_eq ⟨by omega, by omega⟩, ix_get hi, ix_get (show i < b.length by omega), i64w (by omega) (by omega)]
   rw [List.getElem?_eq_getElem hi, List.getElem?_eq_getElem (show i < b.length by omega)]
   by_cases he : a[i] = b[i]
   ·rw [if_pos he, if_neg (by rw [he]; simp)]; rfl
   ·rw [if_neg he, if_pos (by simpa using he)]
  ·unfold slices.Equal_api_Scored.body0
   simp
 ·rw [if_neg (by omega), decide_eq_false (fun e => hl (by rw [e]))]

theorem eq_rS (a b : List (List UInt8)) (h : a.length ≤ 1000000000000000) : mewsref19.texts a b = some (decide (a = b)) := by
 unfold mewsref19.texts
 by_cases hl : a.length = b.length
 ·rw [if_pos (by omega)]
  unfold mewsref19.texts.loop0
  rw [whileO_anyE ⟨0⟩ (fun i => (⟨(i : Int)⟩ : mewsref19.texts.S0)) a.length (fun i => a[i]? ≠ b[i]?) (.inr false) (.inl ()) ?_ ?_]
  ·simp only [Option.bind_some]
   by_cases he : a = b
   ·rw [if_neg (by rintro ⟨i, _, h2⟩; exact h2 (by rw [he])), decide_eq_true he]; rfl
   ·rw [if_pos, decide_eq_false he]
    ·rfl
    ·refine Classical.byContradiction fun hn => he (List.ext_getElem? fun i => ?_)
     by_cases hi : i < a.length
     ·exact Classical.byContradiction fun h2 => hn ⟨i, hi, h2⟩
     ·rw [List.getElem?_eq_none (by omega), List.getElem?_eq_none (by omega)]
  ·intro i hi
   unfold mewsref19.texts.body0
   simp only
   rw [if_pos (by omega), need_eq ⟨by omega, by omega⟩, need_eq ⟨by omega, by omega⟩, ix_get hi, ix_get (show i < b.length by omega), i64w (by omega) (by omega)]
   rw [List.getElem?_eq_getElem hi, List.getElem?_eq_getElem (show i < b.length by omega)]
   by_cases he : a[i] = b[i]
   ·rw [if_pos he, if_neg (by rw [he]; simp)]; rfl
   ·rw [if_neg he, if_pos (by simpa using he)]
  ·unfold mewsref19.texts.body0
   simp
 ·rw [if_neg (by omega), decide_eq_false (fun e => hl (by rw [e]))]

theorem eq_rF (a b : List (api.Field)) (h : a.length ≤ 1000000000000000) : mewsref19.fields a b = some (decide (a = b)) := by
 unfold mewsref19.fields
 by_cases hl : a.length = b.length
 ·rw [if_pos (by omega)]
  unfold mewsref19.fields.loop0
  rw [whileO_anyE ⟨0⟩ (fun i => (⟨(i : Int)⟩ : mewsref19.fields.S0)) a.length (fun i => a[i]? ≠ b[i]?) (.inr false) (.inl ()) ?_ ?_]
  ·simp only [Option.bind_some]
   by_cases he : a = b
   ·rw [if_neg (by rintro ⟨i, _, h2⟩; exact h2 (by rw [he])), decide_eq_true he]; rfl
   ·rw [if_pos, decide_eq_false he]
    ·rfl
    ·refine Classical.byContradiction fun hn => he (List.ext_getElem? fun i => ?_)
     by_cases hi : i < a.length
     ·exact Classical.byContradiction fun h2 => hn ⟨i, hi, h2⟩
     ·rw [List.getElem?_eq_none (by omega), List.getElem?_eq_none (by omega)]
  ·intro i hi
   unfold mewsref19.fields.body0
   simp only
   rw [if_pos (by omega), need_eq ⟨by omega, by omega⟩, need_eq ⟨by omega, by omega⟩, ix_get hi, ix_get (show i < b.length by omega), i64w (by omega) (by omega)]
   rw [List.getElem?_eq_getElem hi, List.getElem?_eq_getElem (show i < b.length by omega)]
   by_cases he : a[i] = b[i]
   ·rw [if_pos he, if_neg (by rw [he]; simp)]; rfl
   ·rw [if_neg he, if_pos (by simpa using he)]
  ·unfold mewsref19.fields.body0
   simp
 ·rw [if_neg (by omega), decide_eq_false (fun e => hl (by rw [e]))]

theorem eq_rZ (a b : List (api.Scored)) (h : a.length ≤ 1000000000000000) : mewsref10.Same a b = some (decide (a = b)) := by
 unfold mewsref10.Same
 by_cases hl : a.length = b.length
 ·rw [if_pos (by omega)]
  unfold mewsref10.Same.loop0
  rw [whileO_anyE ⟨0⟩ (fun i => (⟨(i : Int)⟩ : mewsref10.Same.S0)) a.length (fun i => a[i]? ≠ b[i]?) (.inr false) (.inl ()) ?_ ?_]
  ·simp only [Option.bind_some]
   by_cases he : a = b
   ·rw [if_neg (by rintro ⟨i, _, h2⟩; exact h2 (by rw [he])), decide_eq_true he]; rfl
   ·rw [if_pos, decide_eq_false he]
    ·rfl
    ·refine Classical.byContradiction fun hn => he (List.ext_getElem? fun i => ?_)
     by_cases hi : i < a.length
     ·exact Classical.byContradiction fun h2 => hn ⟨i, hi, h2⟩
     ·rw [List.getElem?_eq_none (by omega), List.getElem?_eq_none (by omega)]
  ·intro i hi
   unfold mewsref10.Same.body0
   simp only
   rw [if_pos (by omega), need_eq ⟨by omega, by omega⟩, need_eq ⟨by omega, by omega⟩, ix_get hi, ix_get (show i < b.length by omega), i64w (by omega) (by omega)]
   rw [List.getElem?_eq_getElem hi, List.getElem?_eq_getElem (show i < b.length by omega)]
   by_cases he : a[i] = b[i]
   ·rw [if_pos he, if_neg (by rw [he]; simp)]; rfl
   ·rw [if_neg he, if_pos (by simpa using he)]
  ·unfold mewsref10.Same.body0
   simp
 ·rw [if_neg (by omega), decide_eq_false (fun e => hl (by rw [e]))]

theorem value_eq_iff (a b : api.Value) : a = b ↔ a.Kind = b.Kind ∧ a.Text = b.Text ∧ a.List_ = b.List_ ∧ a.Hash = b.Hash ∧ a.ZSet = b.ZSet := by
 cases a; cases b; simp

theorem same_eq (a b : api.Value) (h1 : a.List_.length ≤ 1000000000000000) (h2 : a.Hash.length ≤ 1000000000000000) (h3 : a.ZSet.length ≤ 1000000000000000) : charge.Same a b = some (decide (a = b)) := by
 unfold charge.Same
 rw [eq_pS _ _ h1, eq_pF _ _ h2, eq_pZ _ _ h3]
 by_cases e1 : a.Kind = b.Kind
 ·by_cases e2 : a.Text = b.Text
  ·by_cases e3 : a.List_ = b.List_
   ·by_cases e4 : a.Hash = b.Hash
    ·by_cases e5 : a.ZSet = b.ZSet
     ·have : a = b := (value_eq_iff a b).2 ⟨e1, e2, e3, e4, e5⟩
      simp [this]
     ·have : a ≠ b := fun h => e5 ((value_eq_iff a b).1 h).2.2.2.2
      simp [e1, e2, e3, e4, e5, this]
    ·have : a ≠ b := fun h => e4 ((value_eq_iff a b).1 h).2.2.2.1
     simp [e1, e2, e3, e4, this]
   ·have : a ≠ b := fun h => e3 ((value_eq_iff a b).1 h).2.2.1
    simp [e1, e2, e3, this]
  ·have : a ≠ b := fun h => e2 ((value_eq_iff a b).1 h).2.1
   simp [e1, e2, this]
 ·have : a ≠ b := fun h => e1 ((value_eq_iff a b).1 h).1
  simp [e1, this]

theorem rsame_eq (a b : api.Value) (h1 : a.List_.length ≤ 1000000000000000) (h2 : a.Hash.length ≤ 1000000000000000) (h3 : a.ZSet.length ≤ 1000000000000000) : mewsref19.Same a b = some (decide (a = b)) := by
 unfold mewsref19.Same
 rw [eq_rS _ _ h1, eq_rF _ _ h2, eq_rZ _ _ h3]
 by_cases e1 : a.Kind = b.Kind
 ·by_cases e2 : a.Text = b.Text
  ·by_cases e3 : a.List_ = b.List_
   ·by_cases e4 : a.Hash = b.Hash
    ·by_cases e5 : a.ZSet = b.ZSet
     ·have : a = b := (value_eq_iff a b).2 ⟨e1, e2, e3, e4, e5⟩
      simp [this]
     ·have : a ≠ b := fun h => e5 ((value_eq_iff a b).1 h).2.2.2.2
      simp [e1, e2, e3, e4, e5, this]
    ·have : a ≠ b := fun h => e4 ((value_eq_iff a b).1 h).2.2.2.1
     simp [e1, e2, e3, e4, this]
   ·have : a ≠ b := fun h => e3 ((value_eq_iff a b).1 h).2.2.1
    simp [e1, e2, e3, this]
  ·have : a ≠ b := fun h => e2 ((value_eq_iff a b).1 h).2.1
   simp [e1, e2, this]
 ·have : a ≠ b := fun h => e1 ((value_eq_iff a b).1 h).1
  simp [e1, this]

end Go.Pu
