/- Units: which may be, which are the same, how great they are. -/
import Derived.Test.YtdgbjndkccjijaaUBPuText
import Derived.Test.YtdgbjndkccjijaaUBPuPutL
import Derived.Test.YtdgbjndkccjijaaUBPuCrc1
set_option maxRecDepth 100000
namespace Go.Pu
open Go.Lift

abbrev Cmds := List (List (List UInt8))

/-! ### May it be? -/
def cmdOk (c : List (List UInt8)) : Bool := decide (0 < c.length ∧ c.length ≤ 65536) && c.all fun s => decide (s.length ≤ 1048576)
def mayM (l : Cmds) : Bool := decide (0 < l.length ∧ l.length ≤ 4096) && l.all cmdOk

theorem Contains_may (c : List (List UInt8)) (h : c.length ≤ 1000000000) : slices.ContainsFunc_string_unit_may_1_1 c = some (c.any fun x => decide (1048576 < x.length)) := by
 unfold slices.ContainsFunc_string_unit_may_1_1 slices.IndexFunc_string_unit_may_1_1 slices.IndexFunc_string_unit_may_1_1.loop0
 rw [whileO_idxE ⟨0⟩ (fun i => (⟨(i : Int)⟩ : slices.IndexFunc_string_unit_may_1_1.S0)) c (fun x => decide (1048576 < x.length)) (fun i => .inr (i : Int)) (.inl ()) ?_ ?_]
 ·rw [← idxF_isSome (p := fun x : List UInt8 => decide (1048576 < x.length)) (j := 0)]
  cases idxF (fun x : List UInt8 => decide (1048576 < x.length)) c 0 with
  | none => simp [onSum]
  | some i => simp [onSum]
 ·intro i hi
  unfold slices.IndexFunc_string_unit_may_1_1.body0 unit.may_1_1
  simp only
  rw [if_pos (by omega), need_eq ⟨by omega, by omega⟩, ix_get hi, i64w (by omega) (by omega)]
  simp only [Option.bind_some]
  by_cases hh : 1048576 < c[i].length
  ·rw [if_pos (by simp; omega), if_pos (by simp; omega)]
  ·rw [if_neg (by simp; omega), if_neg (by simp; omega)]; rfl
 ·unfold slices.IndexFunc_string_unit_may_1_1.body0
  simp

theorem may_1_eq (c : List (List UInt8)) : unit.may_1 c = some (!cmdOk c) := by
 unfold unit.may_1 cmdOk
 by_cases h0 : c.length = 0
 ·rw [if_pos (by omega)]
  simp [h0]
 ·rw [if_neg (by omega)]
  by_cases h1 : 65536 < c.length
  ·rw [if_pos (by omega)]
   have : ¬ c.length ≤ 65536 := by omega
   simp [this]
  ·rw [if_neg (by omega), Contains_may c (by omega)]
   simp only [Option.bind_some]
   rw [show decide (0 < c.length ∧ c.length ≤ 65536) = true from decide_eq_true ⟨by omega, by omega⟩, Bool.true_and]
   congr 1
   rw [List.any_eq_not_all_not]
   congr 2
   funext x
   by_cases hh : 1048576 < x.length
   ·rw [decide_eq_true hh, decide_eq_false (by omega)]; rfl
   ·rw [decide_eq_false hh, decide_eq_true (by omega)]; rfl

theorem Contains_mays (l : Cmds) (h : l.length ≤ 1000000000) : slices.ContainsFunc_strings_unit_may_1 l = some (l.any fun x => !cmdOk x) := by
 unfold slices.ContainsFunc_strings_unit_may_1 slices.IndexFunc_strings_unit_may_1 slices.IndexFunc_strings_unit_may_1.loop0
 rw [whileO_idxE ⟨0⟩ (fun i => (⟨(i : Int)⟩ : slices.IndexFunc_strings_unit_may_1.S0)) l (fun x => !cmdOk x) (fun i => .inr (i : Int)) (.inl ()) ?_ ?_]
 ·rw [← idxF_isSome (p := fun x : List (List UInt8) => !cmdOk x) (j := 0)]
  cases idxF (fun x : List (List UInt8) => !cmdOk x) l 0 with
  | none => simp [onSum]
  | some i => simp [onSum]
 ·intro i hi
  unfold slices.IndexFunc_strings_unit_may_1.body0
  simp only
  rw [if_pos (by omega), need_eq ⟨by omega, by omega⟩, ix_get hi, may_1_eq, i64w (by omega) (by omega)]
  simp only [Option.bind_some]
  split <;> simp
 ·unfold slices.IndexFunc_strings_unit_may_1.body0
  simp

theorem may_eq (u : api.Unit) : unit.may u = some (mayM u.Cmds) := by
 unfold unit.may mayM
 by_cases h0 : 0 < u.Cmds.length
 ·rw [if_pos (by omega)]
  by_cases h1 : u.Cmds.length ≤ 4096
  ·rw [if_pos (by omega), Contains_mays _ (by omega)]
   simp only [Option.bind_some]
   rw [decide_eq_true ⟨h0, h1⟩, Bool.true_and, List.not_any_eq_all_not]
   simp
  ·rw [if_neg (by omega), decide_eq_false (by omega)]; rfl
 ·rw [if_neg (by omega), decide_eq_false (by omega)]; rfl

theorem rMay_eq (u : api.Unit) : mewsref15.May u = some (mayM u.Cmds) := by
 unfold mewsref15.May mayM letO
 by_cases h01 : 0 < u.Cmds.length ∧ u.Cmds.length ≤ 4096
 ·obtain ⟨h0, h1⟩ := h01
  rw [show decide (0 < u.Cmds.length ∧ u.Cmds.length ≤ 4096) = true from decide_eq_true ⟨h0, h1⟩, Bool.true_and]
  rw [if_neg (by omega), decide_eq_false (by omega)]
  simp only [Bool.false_eq_true, if_false]
  have : mewsref15.May.loop0 u ⟨0⟩ = some (if u.Cmds.any (fun c => !cmdOk c) = true then .inr false else .inl ()) := by
   unfold mewsref15.May.loop0
   refine whileO_anyL _ (fun i => (⟨(i : Int)⟩ : mewsref15.May.S0)) u.Cmds (fun c => !cmdOk c) _ _ (fun i hi => ?_) ?_
   ·unfold mewsref15.May.body0
    simp only
    rw [if_pos (by omega), need_eq ⟨by omega, by omega⟩]
    unfold letO
    rw [ix_get hi]
    by_cases hc : 0 < u.Cmds[i].length ∧ u.Cmds[i].length ≤ 65536
    ·rw [if_neg (by omega), decide_eq_false (by omega)]
     simp only [Bool.false_eq_true, if_false]
     have h2 : mewsref15.May.loop2 u ⟨(i : Int)⟩ ⟨0⟩ = some (if u.Cmds[i].any (fun s => decide (1048576 < s.length)) = true then .inr (.inr (.inr false)) else .inl ()) := by
      unfold mewsref15.May.loop2
      refine whileO_anyL _ (fun k => (⟨(k : Int)⟩ : mewsref15.May.S2)) u.Cmds[i] (fun s => decide (1048576 < s.length)) _ _ (fun k hk => ?_) ?_
      ·unfold mewsref15.May.body2
       simp only
       rw [ix_get hi, if_pos (by omega), need_eq ⟨by omega, by omega⟩, ix_get hk, i64w (by omega) (by omega)]
       by_cases hh : 1048576 < u.Cmds[i][k].length
       ·rw [if_pos (by omega), if_pos (by simpa using hh)]
       ·rw [if_neg (by omega), if_neg (by simpa using hh)]; rfl
      ·unfold mewsref15.May.body2
       simp only
       rw [ix_get hi, if_neg (by omega)]
     rw [h2]
     simp only [Option.bind_some]
     have hok : cmdOk u.Cmds[i] = !(u.Cmds[i].any fun s => decide (1048576 < s.length)) := by
      unfold cmdOk
      rw [decide_eq_true hc, Bool.true_and, List.not_any_eq_all_not]
      congr 1
      funext x
      by_cases hh : 1048576 < x.length
      ·rw [decide_eq_true hh, decide_eq_false (by omega)]; rfl
      ·rw [decide_eq_false hh, decide_eq_true (by omega)]; rfl
     rw [hok, Bool.not_not, i64w (by omega) (by omega)]
     split
     ·rfl
     ·rfl
    ·have hok : cmdOk u.Cmds[i] = false := by unfold cmdOk; rw [decide_eq_false hc]; rfl
     rw [hok]
     have : (if (u.Cmds[i].length : Int) < 1 then true else decide (65536 < (u.Cmds[i].length : Int))) = true := by
      by_cases h3 : u.Cmds[i].length < 1
      ·rw [if_pos (by omega)]
      ·rw [if_neg (by omega)]; exact decide_eq_true (by omega)
     rw [this]
     rfl
   ·unfold mewsref15.May.body0
    simp
  rw [this]
  simp only [Option.bind_some]
  rw [← Bool.not_not (u.Cmds.all cmdOk), List.not_all_eq_any_not]
  split
  ·rename_i h; rw [h]; rfl
  ·rename_i h; rw [Bool.not_eq_true] at h; rw [h]; rfl
 ·have : (if (u.Cmds.length : Int) < 1 then true else decide (4096 < (u.Cmds.length : Int))) = true := by
   by_cases h3 : u.Cmds.length < 1
   ·rw [if_pos (by omega)]
   ·rw [if_neg (by omega)]; exact decide_eq_true (by omega)
  rw [this, decide_eq_false h01]
  rfl

/-! ### Are they the same? -/
theorem Equal_eq (a b : List (List UInt8)) (h : a.length ≤ 1000000000000000) : slices.Equal_string a b = some (decide (a = b)) := by
 unfold slices.Equal_string
 by_cases hl : a.length = b.length
 ·rw [if_pos (by omega)]
  unfold slices.Equal_string.loop0
  rw [whileO_anyE ⟨0⟩ (fun i => (⟨(i : Int)⟩ : slices.Equal_string.S0)) a.length (fun i => a[i]? ≠ b[i]?) (.inr false) (.inl ()) ?_ ?_]
  ·simp only [Option.bind_some]
   by_cases he : a = b
   ·rw [if_neg (by rintro ⟨i, _, h2⟩; exact h2 (by rw [he])), decide_eq_true he]; rfl
   ·rw [if_pos, decide_eq_false he]
    ·rfl
    ·refine Classical.byContradiction fun hn => he (List.ext_getElem? fun i => ?_)
     by_cases hi : i < a.length
     ·exact Classical.byContradiction fun h2 => hn ⟨i, hi, h2⟩
     ·rw [List.getElem?_eq_none (by omega), List.getElem?_eq_none (by omega)]
  ·intro i hi
   unfold slices.Equal_string.body0
   simp only
   rw [if_pos (by omega), need_eq ⟨by omega, by omega⟩, need_eq ⟨by omega, by omega⟩, ix_get hi, ix_get (show i < b.length by omega), i64w (by omega) (by omega)]
   rw [List.getElem?_eq_getElem hi, List.getElem?_eq_getElem (show i < b.length by omega)]
   by_cases he : a[i] = b[i]
   ·rw [if_pos he, if_neg (by rw [he]; simp)]; rfl
   ·rw [if_neg he, if_pos (by simpa using he)]
  ·unfold slices.Equal_string.body0
   simp
 ·rw [if_neg (by omega), decide_eq_false (fun e => hl (by rw [e]))]

theorem Same_eq (a b : api.Unit) (h : a.Cmds.length ≤ 1000000000000000) (h2 : ∀ c ∈ a.Cmds, c.length ≤ 1000000000000000) : unit.Same a b = some (decide (a.Cmds = b.Cmds)) := by
 unfold unit.Same slices.EqualFunc_strings_slices_Equal_string
 by_cases hl : a.Cmds.length = b.Cmds.length
 ·rw [if_pos (by omega)]
  unfold slices.EqualFunc_strings_slices_Equal_string.loop0
  rw [whileO_anyE ⟨0⟩ (fun i => (⟨(i : Int)⟩ : slices.EqualFunc_strings_slices_Equal_string.S0)) a.Cmds.length (fun i => a.Cmds[i]? ≠ b.Cmds[i]?) (.inr false) (.inl ()) ?_ ?_]
  ·simp only [Option.bind_some]
   by_cases he : a.Cmds = b.Cmds
   ·rw [if_neg (by rintro ⟨i, _, h2⟩; exact h2 (by rw [he])), decide_eq_true he]; rfl
   ·rw [if_pos, decide_eq_false he]
    ·rfl
    ·refine Classical.byContradiction fun hn => he (List.ext_getElem? fun i => ?_)
     by_cases hi : i < a.Cmds.length
     ·exact Classical.byContradiction fun h2 => hn ⟨i, hi, h2⟩
     ·rw [List.getElem?_eq_none (by omega), List.getElem?_eq_none (by omega)]
  ·intro i hi
   unfold slices.EqualFunc_strings_slices_Equal_string.body0
   simp only
   rw [if_pos (by omega), need_eq ⟨by omega, by omega⟩, need_eq ⟨by omega, by omega⟩, ix_get hi, ix_get (show i < b.Cmds.length by omega), i64w (by omega) (by omega), Equal_eq _ _ (h2 _ (List.getElem_mem hi))]
   rw [List.getElem?_eq_getElem hi, List.getElem?_eq_getElem (show i < b.Cmds.length by omega)]
   simp only [Option.bind_some]
   by_cases he : a.Cmds[i] = b.Cmds[i]
   ·rw [if_neg (by rw [he]; simp), if_neg (by rw [he]; simp)]; rfl
   ·rw [if_pos (by simpa using he), if_pos (by simpa using he)]
  ·unfold slices.EqualFunc_strings_slices_Equal_string.body0
   simp
 ·rw [if_neg (by omega), decide_eq_false (fun e => hl (by rw [e]))]; rfl

theorem rSame_eq (a b : api.Unit) (h : a.Cmds.length ≤ 1000000000000000) (h2 : ∀ c ∈ a.Cmds, c.length ≤ 1000000000000000) : mewsref15.Same a b = some (decide (a.Cmds = b.Cmds)) := by
 unfold mewsref15.Same
 by_cases hl : a.Cmds.length = b.Cmds.length
 ·rw [if_pos (by omega)]
  unfold mewsref15.Same.loop0
  rw [whileO_anyE ⟨0⟩ (fun i => (⟨(i : Int)⟩ : mewsref15.Same.S0)) a.Cmds.length (fun i => a.Cmds[i]? ≠ b.Cmds[i]?) (.inr false) (.inl ()) ?_ ?_]
  ·simp only [Option.bind_some]
   by_cases he : a.Cmds = b.Cmds
   ·rw [if_neg (by rintro ⟨i, _, h2⟩; exact h2 (by rw [he])), decide_eq_true he]; rfl
   ·rw [if_pos, decide_eq_false he]
    ·rfl
    ·refine Classical.byContradiction fun hn => he (List.ext_getElem? fun i => ?_)
     by_cases hi : i < a.Cmds.length
     ·exact Classical.byContradiction fun h2 => hn ⟨i, hi, h2⟩
     ·rw [List.getElem?_eq_none (by omega), List.getElem?_eq_none (by omega)]
  ·intro i hi
   have hib : i < b.Cmds.length := by omega
   have hla := h2 _ (List.getElem_mem hi)
   unfold mewsref15.Same.body0
   simp only
   rw [if_pos (by omega), need_eq ⟨by omega, by omega⟩, need_eq ⟨by omega, by omega⟩, ix_get hi, ix_get hib]
   rw [List.getElem?_eq_getElem hi, List.getElem?_eq_getElem hib]
   by_cases hc : a.Cmds[i].length = b.Cmds[i].length
   ·rw [if_pos (by omega)]
    have hl2 : mewsref15.Same.loop2 ⟨(i : Int)⟩ a b ⟨0⟩ = some (if a.Cmds[i] = b.Cmds[i] then .inl () else .inr (.inr (.inr false))) := by
     unfold mewsref15.Same.loop2
     rw [whileO_anyE ⟨0⟩ (fun k => (⟨(k : Int)⟩ : mewsref15.Same.S2)) a.Cmds[i].length (fun k => a.Cmds[i][k]? ≠ b.Cmds[i][k]?) (.inr (.inr (.inr false))) (.inl ()) ?_ ?_]
     ·by_cases he : a.Cmds[i] = b.Cmds[i]
      ·rw [if_neg (by rintro ⟨k, _, h2⟩; exact h2 (by rw [he])), if_pos he]
      ·rw [if_pos, if_neg he]
       refine Classical.byContradiction fun hn => he (List.ext_getElem? fun k => ?_)
       by_cases hk : k < a.Cmds[i].length
       ·exact Classical.byContradiction fun h2 => hn ⟨k, hk, h2⟩
       ·rw [List.getElem?_eq_none (by omega), List.getElem?_eq_none (by omega)]
     ·intro k hk
      have hkb : k < b.Cmds[i].length := by omega
      unfold mewsref15.Same.body2
      simp only
      rw [need_eq ⟨by omega, by omega⟩, ix_get hi, if_pos (by omega), need_eq ⟨by omega, by omega⟩, need_eq ⟨by omega, by omega⟩, need_eq ⟨by omega, by omega⟩, ix_get hib, need_eq ⟨by omega, by omega⟩, ix_get hk, ix_get hkb, i64w (by omega) (by omega)]
      rw [List.getElem?_eq_getElem hk, List.getElem?_eq_getElem hkb]
      by_cases he : a.Cmds[i][k] = b.Cmds[i][k]
      ·rw [if_pos he, if_neg (by rw [he]; simp)]; rfl
      ·rw [if_neg he, if_pos (by simpa using he)]
     ·unfold mewsref15.Same.body2
      simp only
      rw [need_eq ⟨by omega, by omega⟩, ix_get hi, if_neg (by omega)]
    rw [hl2]
    simp only [Option.bind_some]
    rw [i64w (by omega) (by omega)]
    by_cases he : a.Cmds[i] = b.Cmds[i]
    ·rw [if_pos he, if_neg (by rw [he]; simp)]; rfl
    ·rw [if_neg he, if_pos (by simpa using he)]; rfl
   ·rw [if_neg (by omega), if_pos (by simp; exact fun e => hc (by rw [e]))]
    rfl
  ·unfold mewsref15.Same.body0
   simp
 ·rw [if_neg (by omega), decide_eq_false (fun e => hl (by rw [e]))]

end Go.Pu
