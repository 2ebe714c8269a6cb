import Derived.Test.YtmognhokagemiaaGreatRZPuStream
set_option maxRecDepth 100000
namespace Go.Pu
open Go.Lift

abbrev Cmds := List (List (List UInt8))

/-! ### May it be? -/
def cmdOk (c : List (List UInt8)) : Bool := decide (0 < c.length ∧ c.length ≤ 65536) && c.all fun s => decide (s.length ≤ 1048576)
def mayM (l : Cmds) : Bool := decide (0 < l.length ∧ l.length ≤ 4096) && l.all cmdOk

theorem Contains_may (c : List (List UInt8)) (h : c.length ≤ 1000000000) : slices.ContainsFunc_string_unit_may_1_1 c = some (c.any fun x => decide (1048576 < x.length)) := by
 unfold slices.ContainsFunc_string_unit_may_1_1 slices.IndexFunc_string_unit_may_1_1 slices.IndexFunc_string_unit_may_1_1.loop0
 rw [whileO_idxE ⟨0⟩ (fun i => (⟨(i : Int)⟩ : slices.IndexFunc_string_unit_may_1_1.S0)) c (fun x => decide (1048576 < x.length)) (fun i => .inr (i : Int)) (.inl ()) ?_ ?_]
 ·rw [← idxF_isSome (p := fun x : List UInt8 => decide (1048576 < x.length)) (j := 0)]
  cases idxF (fun x : List UInt8 => decide (1048576 < x.length)) c 0 with
  | none => simp [onSum]
  | some i => simp [onSum]
 ·intro i hi
  unfold slices.IndexFunc_string_unit_may_1_1.body0 unit.may_1_1
  simp only
  rw [if_pos (by omega), need_eq ⟨by omega, by omega⟩, ix_get hi, i64w (by omega) (by omega)]
  simp only [Option.bind_some]
  by_cases hh : 1048576 < c[i].length
  ·rw [if_pos (by simp; omega), if_pos (by simp; omega)]
  ·rw [if_neg (by simp; omega), if_neg (by simp; omega)]; rfl
 ·unfold slices.IndexFunc_string_unit_may_1_1.body0
  simp

theorem may_1_eq (c : List (List UInt8)) : unit.may_1 c = some (!cmdOk c) := by
 unfold unit.may_1 cmdOk
 by_cases h0 : c.length = 0
 ·rw [if_pos (by omega)]
  simp [h0]
 ·rw [if_neg (by omega)]
  by_cases h1 : 65536 < c.length
  ·rw [if_pos (by omega)]
   have : ¬ c.length ≤ 65536 := by omega
   simp [this]
  ·rw [if_neg (by omega), Contains_may c (by omega)]
   simp only [Option.bind_some]
   rw [show decide (0 < c.length ∧ c.length ≤ 65536) = true from decide_eq_true ⟨by omega, by omega⟩, Bool.true_and]
   congr 1
   rw [List.any_eq_not_all_not]
   congr 2
   funext x
   by_cases hh : 1048576 < x.length
   ·rw [decide_eq_true hh, decide_eq_false (by omega)]; rfl
   ·rw [decide_eq_false hh, decide_eq_true (by omega)]; rfl

theorem Contains_mays (l : Cmds) (h : l.length ≤ 1000000000) : slices.ContainsFunc_strings_unit_may_1 l = some (l.any fun x => !cmdOk x) := by
 unfold slices.ContainsFunc_strings_unit_may_1 slices.IndexFunc_strings_unit_may_1 slices.IndexFunc_strings_unit_may_1.loop0
 rw [whileO_idxE ⟨0⟩ (fun i => (⟨(i : Int)⟩ : slices.IndexFunc_strings_unit_may_1.S0)) l (fun x => !cmdOk x) (fun i => .inr (i : Int)) (.inl ()) ?_ ?_]
 ·rw [← idxF_isSome (p := fun x : List (List UInt8) => !cmdOk x) (j := 0)]
  cases idxF (fun x : List (List UInt8) => !cmdOk x) l 0 with
  | none => simp [onSum]
  | some i => simp [onSum]
 ·intro i hi
  unfold slices.IndexFunc_strings_unit_may_1.body0
  simp only
  rw [if_pos (by omega), need_eq ⟨by omega, by omega⟩, ix_get hi, may_1_eq, i64w (by omega) (by omega)]
  simp only [Option.bind_some]
  split <;> simp
 ·unfold slices.IndexFunc_strings_unit_may_1.body0
  simp

theorem may_eq (u : api.Unit) : unit.may u = some (mayM u.Cmds) := by
 unfold unit.may mayM
 by_cases h0 : 0 < u.Cmds.length
 ·rw [if_pos (by omega)]
  by_cases h1 : u.Cmds.length ≤ 4096
  ·rw [if_pos (by omega), Contains_mays _ (by omega)]
   simp only [Option.bind_some]
   rw [decide_eq_true ⟨h0, h1⟩, Bool.true_and, List.not_any_eq_all_not]
   simp
  ·rw [if_neg (by omega), decide_eq_false (by omega)]; rfl
 ·rw [if_neg (by omega), decide_eq_false (by omega)]; rfl

theorem rMay_eq (u : api.Unit) : mewsref15.May u = some (mayM u.Cmds) := by
 unfold mewsref15.May mayM letO
 by_cases h01 : 0 < u.Cmds.length ∧ u.Cmds.length ≤ 4096
 ·obtain ⟨h0, h1⟩ := h01
  rw [show decide (0 < u.Cmds.length ∧ u.Cmds.length ≤ 4096) = true from decide_eq_true ⟨h0, h1⟩, Bool.true_and]
  rw [if_neg (by omega), decide_eq_false (by omega)]
  simp only [Bool.false_eq_true, if_false]
  have : mewsref15.May.loop0 u ⟨0⟩ = some (if u.Cmds.any (fun c => !cmdOk c) = true then .inr false else .inl ()) := by
   unfold mewsref15.May.loop0
   refine whileO_anyL _ (fun i => (⟨(i : Int)⟩ : mewsref15.May.S0)) u.Cmds (fun c => !cmdOk c) _ _ (fun i hi => ?_) ?_
   ·unfold mewsref15.May.body0
    simp only
    rw [if_pos (by omega), need_eq ⟨by omega, by omega⟩]
    unfold letO
    rw [ix_get hi]
    by_cases hc : 0 < u.Cmds[i].length ∧ u.Cmds[i].length ≤ 65536
    ·rw [if_neg (by omega), decide_eq_false (by omega)]
     simp only [Bool.false_eq_true, if_false]
     have h2 : mewsref15.May.loop2 u ⟨(i : Int)⟩ ⟨0⟩ = some (if u.Cmds[i].any (fun s => decide (1048576 < s.length)) = true then .inr (.inr (.inr false)) else .inl ()) := by
      unfold mewsref15.May.loop2
      refine whileO_anyL _ (fun k => (⟨(k : Int)⟩ : mewsref15.May.S2)) u.Cmds[i] (fun s => decide (1048576 < s.length)) _ _ (fun k hk => ?_) ?_
      ·unfold mewsref15.May.body2
       simp only
       rw [ix_get hi, if_pos (by omega), need_eq ⟨by omega, by omega⟩, ix_get hk, i64w (by omega) (by omega)]
       by_cases hh : 1048576 < u.Cmds[i][k].length
       ·rw [if_pos (by omega), if_pos (by simpa using hh)]
       ·rw [if_neg (by omega), if_neg (by simpa using hh)]; rfl
      ·unfold mewsref15.May.body2
       simp only
       rw [ix_get hi, if_neg (by omega)]
     rw [h2]
     simp only [Option.bind_some]
     have hok : cmdOk u.Cmds[i] = !(u.Cmds[i].any fun s => decide (1048576 < s.length)) := by
      unfold cmdOk
      rw [decide_eq_true hc, Bool.true_and, List.not_any_eq_all_not]
      congr 1
      funext x
      by_cases hh : 1048576 < x.length
      ·rw [decide_eq_true hh, decide_eq_false (by omega)]; rfl
      ·rw [decide_eq_false hh, decide_eq_true (by omega)]; rfl
     rw [hok, Bool.not_not, i64w (by omega) (by omega)]
     split
     ·rfl
     ·rfl
    ·have hok : cmdOk u.Cmds[i] = false := by unfold cmdOk; rw [decide_eq_false hc]; rfl
     rw [hok]
     have : (if (u.Cmds[i].length : Int) < 1 then true else decide (65536 < (u.Cmds[i].length : Int))) = true := by
      by_cases h3 : u.Cmds[i].length < 1
      ·rw [if_pos (by omega)]
      ·rw [if_neg (by omega)]; exact decide_eq_true (by omega)
     rw [this]
     rfl
   ·unfold mewsref15.May.body0
    simp
  rw [this]
  simp only [Option.bind_some]
  rw [← Bool.not_not (u.Cmds.all cmdOk), List.not_all_eq_any_not]
  split
  ·rename_i h; rw [h]; rfl
  ·rename_i h; rw [Bool.not_eq_true] at h; rw [h]; rfl
 ·have : (if (u.Cmds.length : Int) < 1 then true else decide (4096 < (u.Cmds.length : Int))) = true := by
   by_cases h3 : u.Cmds.length < 1
   ·rw [if_pos (by omega)]
   ·rw [if_neg (by omega)]; exact decide_eq_true (by omega)
  rw [this, decide_eq_false h01]
  rfl

end Go.Pu

set_option maxRecDepth 100000
namespace Go.Pu
open Go.Lift

/-! ### How great -/
def wtU : Cmds → Nat
 | [] => 0
 | c :: l => 1 + lenS c + c.length + wtU l
theorem wtU_append (a b : Cmds) : wtU (a ++ b) = wtU a + wtU b := by
 induction a with
 | nil => simp [wtU]
 | cons x a ih => simp only [List.cons_append, wtU, ih]; omega
theorem wtU_at : ∀ (l : Cmds) (j : Nat) (hj : j < l.length), 1 + lenS l[j] + l[j].length ≤ wtU l
 | x :: l, 0, _ => by simp only [wtU, List.getElem_cons_zero]; omega
 | x :: l, j + 1, hj => by have := wtU_at l j (by simpa using hj); simp only [wtU, List.getElem_cons_succ]; omega
theorem wtU_take (l : Cmds) (j : Nat) : wtU (l.take j) ≤ wtU l := by
 have := wtU_append (l.take j) (l.drop j)
 rw [List.take_append_drop] at this; omega
theorem wtU_len : ∀ (l : Cmds), l.length ≤ wtU l
 | [] => Nat.le_refl _
 | x :: l => by have := wtU_len l; simp only [wtU, List.length_cons]; omega

/-- What fits in a machine. -/
def FitsC (l : Cmds) : Prop := l.length ≤ 1000000000000000 ∧ ∀ c ∈ l, c.length ≤ 1000000000000000 ∧ ∀ s ∈ c, s.length ≤ 1000000000000000

/-- Units that are not far. -/
def wtL : List api.Unit → Nat
 | [] => 0
 | u :: l => wtU u.Cmds + wtL l
theorem wtL_append (a b : List api.Unit) : wtL (a ++ b) = wtL a + wtL b := by
 induction a with
 | nil => simp [wtL]
 | cons x a ih => simp only [List.cons_append, wtL, ih]; omega

/-! ### The bytes -/
theorem putL_len : ∀ (l : Cmds), wtU l ≤ 300000 → (putL l).length ≤ 12 * wtU l
 | [], _ => by simp [putL]
 | c :: l, h => by
  simp only [wtU] at h
  have h1 := putM_lenB c (by omega) (by omega)
  have h2 := putL_len l (by omega)
  simp only [putL, wtU, List.length_append]; omega

theorem load_eq (u : api.Unit) (h : wtU u.Cmds ≤ 300000) : unit.load u = some (putL u.Cmds, true) := by
 unfold unit.load
 have hlen := wtU_len u.Cmds
 have hloop : unit.load.loop0 u ⟨0, ([] : List UInt8)⟩ = some (.inl (putL u.Cmds)) := by
  unfold unit.load.loop0
  refine whileO_knownE _ (fun i => (⟨(i : Int), putL (u.Cmds.take i)⟩ : unit.load.S0)) u.Cmds.length (fun i hi => ?_) ?_ rfl
  ·have hw := wtU_at u.Cmds i hi
   have hl2 : unit.load.loop2 u ⟨(i : Int), putL (u.Cmds.take i)⟩ ⟨0, 0⟩ = some (.inl ()) := by
    unfold unit.load.loop2
    refine whileO_knownE _ (fun k => (⟨(lenS (u.Cmds[i].take k) : Int), (k : Int)⟩ : unit.load.S2)) u.Cmds[i].length (fun k hk => ?_) ?_ rfl
    ·have h1 : lenS (u.Cmds[i].take (k + 1)) = lenS (u.Cmds[i].take k) + u.Cmds[i][k].length := by
      rw [List.take_add_one, List.getElem?_eq_getElem hk, lenS_append]; simp [lenS]
     have h2 := lenS_take u.Cmds[i] (k + 1)
     unfold unit.load.body2
     simp only
     rw [ix_get hi, if_pos (by omega), need_eq ⟨by omega, by omega⟩, ix_get hk, i64w (by omega) (by omega), if_neg (by omega), i64w (by omega) (by omega)]
     rw [h1]
     congr 3
    ·unfold unit.load.body2
     simp only
     rw [ix_get hi, if_neg (by omega)]
   have htk := wtU_take u.Cmds (i + 1)
   have hpl := putL_len (u.Cmds.take (i + 1)) (by omega)
   have hsn : putL (u.Cmds.take (i + 1)) = putL (u.Cmds.take i) ++ putM u.Cmds[i] := by
    rw [List.take_add_one, List.getElem?_eq_getElem hi]
    exact putL_snoc _ _
   rw [hsn, List.length_append] at hpl
   unfold unit.load.body0
   simp only
   rw [if_pos (by omega), need_eq ⟨by omega, by omega⟩, hl2, ix_get hi]
   simp only [Option.bind_some, onSum]
   rw [Put_eq _ (by omega) (by omega)]
   simp only [Option.bind_some]
   rw [need_eq (by omega), if_neg (by simp; omega), i64w (by omega) (by omega), hsn]
   rfl
  ·unfold unit.load.body0
   simp only
   rw [if_neg (by omega), List.take_length]
 rw [hloop]
 rfl

theorem rLoad_eq (u : api.Unit) (h : wtU u.Cmds ≤ 300000) : mewsref15.load u = some (putL u.Cmds) := by
 unfold mewsref15.load
 have hlen := wtU_len u.Cmds
 have hloop : mewsref15.load.loop0 u ⟨([] : List UInt8), 0⟩ = some (putL u.Cmds) := by
  unfold mewsref15.load.loop0
  refine whileO_knownE _ (fun i => (⟨putL (u.Cmds.take i), (i : Int)⟩ : mewsref15.load.S0)) u.Cmds.length (fun i hi => ?_) ?_ rfl
  ·have hw := wtU_at u.Cmds i hi
   have htk := wtU_take u.Cmds (i + 1)
   have hpl := putL_len (u.Cmds.take (i + 1)) (by omega)
   have hsn : putL (u.Cmds.take (i + 1)) = putL (u.Cmds.take i) ++ putM u.Cmds[i] := by
    rw [List.take_add_one, List.getElem?_eq_getElem hi]
    exact putL_snoc _ _
   rw [hsn, List.length_append] at hpl
   unfold mewsref15.load.body0 letO
   simp only
   rw [if_pos (show (if (i : Int) < (u.Cmds.length : Int) then decide (((putL (u.Cmds.take i)).length : Int) ≤ 4194304) else false) = true by rw [if_pos (by omega)]; exact decide_eq_true (by omega)), need_eq ⟨by omega, by omega⟩, ix_get hi, rPutB_eq _ (by omega) (by omega)]
   simp only [Option.bind_some]
   rw [need_eq (by omega), i64w (by omega) (by omega), hsn]
   rfl
  ·unfold mewsref15.load.body0 letO
   simp only
   rw [if_neg (show ¬ (if ((u.Cmds.length : Nat) : Int) < (u.Cmds.length : Int) then decide (((putL (u.Cmds.take u.Cmds.length)).length : Int) ≤ 4194304) else false) = true by rw [if_neg (by omega)]; simp), List.take_length]
 rw [hloop]
 rfl

def headN (n : Nat) : List UInt8 := 85 :: le4 n
def unitM (l : Cmds) : List UInt8 := sealN (headN (putL l).length ++ putL l)
def putU (u : api.Unit) : List UInt8 × Int := if mayM u.Cmds = true then (unitM u.Cmds, 0) else ([], 1)

theorem four_eq (n : Nat) (h : n ≤ 4194304) : unit.four (IntKind.wrap .u32 (n : Int)) = some (le4 n) := by
 rw [u32w (by omega) (by omega)]
 unfold unit.four
 have e8 : ((n : Nat) : Int) / 2 ^ min (Int.toNat 8) (IntKind.bits .u32) = ((n / 256 : Nat) : Int) := by
  have : ((2 : Int) ^ min (Int.toNat 8) (IntKind.bits .u32)) = 256 := rfl
  rw [this]; omega
 have e16 : ((n : Nat) : Int) / 2 ^ min (Int.toNat 16) (IntKind.bits .u32) = ((n / 65536 : Nat) : Int) := by
  have : ((2 : Int) ^ min (Int.toNat 16) (IntKind.bits .u32)) = 65536 := rfl
  rw [this]; omega
 have e24 : ((n : Nat) : Int) / 2 ^ min (Int.toNat 24) (IntKind.bits .u32) = ((n / 16777216 : Nat) : Int) := by
  have : ((2 : Int) ^ min (Int.toNat 24) (IntKind.bits .u32)) = 16777216 := rfl
  rw [this]; omega
 rw [e8, e16, e24, need_eq (u8_wrap_ok _), need_eq (u8_wrap_ok _), need_eq (u8_wrap_ok _), need_eq (u8_wrap_ok _), u8_wrap, u8_wrap, u8_wrap, u8_wrap]
 rfl

theorem PutU_eq (u : api.Unit) (h : wtU u.Cmds ≤ 300000) : unit.Put u = some (putU u) := by
 unfold unit.Put putU
 rw [may_eq]
 simp only [Option.bind_some]
 cases hm : mayM u.Cmds with
 | false => rfl
 | true =>
  have hpl := putL_len _ h
  rw [if_neg (by simp), load_eq u h]
  simp only [Option.bind_some]
  rw [if_neg (by simp), four_eq _ (by omega)]
  simp only [Option.bind_some]
  rw [need_eq (by simp [le4]), need_eq (by simp [le4]; omega), cSeal_eq _ (by simp [le4]; omega)]
  rfl

theorem rPutU_eq (u : api.Unit) (h : wtU u.Cmds ≤ 300000) : mewsref15.Put u = some (putU u) := by
 unfold mewsref15.Put putU
 rw [rMay_eq]
 simp only [Option.bind_some]
 cases hm : mayM u.Cmds with
 | false => rfl
 | true =>
  have hpl := putL_len _ h
  rw [if_neg (by simp), rLoad_eq u h]
  simp only [Option.bind_some]
  have e1 : IntKind.wrap .i64 (((putL u.Cmds).length : Int).tdiv 256) = (((putL u.Cmds).length / 256 : Nat) : Int) := i64w (by show _ ≤ (((putL u.Cmds).length / 256 : Nat) : Int); omega) (by show (((putL u.Cmds).length / 256 : Nat) : Int) < _; omega)
  have e2 : IntKind.wrap .i64 (((putL u.Cmds).length : Int).tdiv 65536) = (((putL u.Cmds).length / 65536 : Nat) : Int) := i64w (by show _ ≤ (((putL u.Cmds).length / 65536 : Nat) : Int); omega) (by show (((putL u.Cmds).length / 65536 : Nat) : Int) < _; omega)
  have e3 : u8 0 = UInt8.ofNat ((putL u.Cmds).length / 16777216) := by rw [show (putL u.Cmds).length / 16777216 = 0 by omega]; rfl
  rw [if_neg (by omega), need_eq (u8_wrap_ok _), need_eq (u8_wrap_ok _), need_eq (u8_wrap_ok _), need_eq ⟨by omega, by omega⟩, e1, e2, u8_wrap, u8_wrap, u8_wrap, e3, need_eq (by simp)]
  show need ((headN (putL u.Cmds).length).length + (putL u.Cmds).length ≤ 9223372036854775807) ((mewsref14.Seal (headN (putL u.Cmds).length ++ putL u.Cmds)).bind fun r24 => some (r24, 0)) = _
  rw [need_eq (by simp [headN, le4]; omega), rSeal_eq _ (by simp [headN, le4]; omega)]
  rfl

end Go.Pu
