import Derived.Test.YtnlnolbgakfofaaMEPuChg5
import Derived.Test.YtnlnolbgakfofaaMEPuMk1
set_option maxHeartbeats 0
set_option maxRecDepth 100000
namespace Go.Pu
open Go.Lift

def noVal : api.Value := { Kind := 0, Text := [], List_ := [], Hash := [], ZSet := [] }

/-- The end of May: nothing is left over. -/
theorem may_end {α : Type} (ok : Bool) (T : Str) (L : List Str) (H : List api.Field) (Z : List api.Scored) (h1 : L.length ≤ 3000) (h2 : H.length ≤ 3000) (h3 : Z.length ≤ 3000) :
  ((if ok = true then (charge.Same { Kind := 0, Text := T, List_ := L, Hash := H, ZSet := Z } noVal).bind fun r76 => some r76 else some false : Option Bool).bind fun s72 => some s72) = some (ok && decide (T = [] ∧ L = [] ∧ H = [] ∧ Z = [])) := by
 cases ok with
 | false => rfl
 | true =>
  rw [if_pos rfl, same_eq _ _ (by show L.length ≤ _; omega) (by show H.length ≤ _; omega) (by show Z.length ≤ _; omega)]
  show some (decide ({ Kind := 0, Text := T, List_ := L, Hash := H, ZSet := Z } = noVal)) = _
  rw [Bool.true_and]
  congr 1
  rw [decide_eq_decide, value_eq_iff]
  simp [noVal]

open Classical in
theorem May_eq (v : api.Value) (h : SmallV v) : ∃ b, charge.May v = some b ∧ mewsref19.May v = some b := by
 obtain ⟨ql, qh, qz⟩ := h.lens
 have rs : ∀ w, mewsref19.Same v w = some (decide (v = w)) := fun w => by
  have := rsame_eq v w (by omega) (by omega) (by omega)
  rw [this]
 unfold charge.May mewsref19.May
 by_cases k1 : v.Kind = 1
 ·rw [if_pos k1, if_pos k1, Option.bind_some]
  refine ⟨_, may_end (α := Unit) true [] v.List_ v.Hash v.ZSet ql qh qz, ?_⟩
  show ((mewsref19.Same v { Kind := 1, Text := v.Text, List_ := [], Hash := [], ZSet := [] }).bind _) = _
  rw [rs]
  show some _ = some _
  congr 1
  rw [Bool.true_and, decide_eq_decide, value_eq_iff]
  simp [k1]
 ·rw [if_neg k1, if_neg k1]
  by_cases k2 : v.Kind = 2
  ·rw [if_pos k2, if_pos k2, Option.bind_some]
   refine ⟨_, may_end (α := Unit) _ v.Text [] v.Hash v.ZSet (by simp) qh qz, ?_⟩
   unfold mewsref19.List_
   by_cases h0 : v.List_.length = 0
   ·rw [if_pos (by omega), Option.bind_some, rs]
    show some _ = some _
    congr 1
    rw [show decide (0 < (v.List_.length : Int)) = false from decide_eq_false (by omega), Bool.false_and]
    refine decide_eq_false fun e => ?_
    have := ((value_eq_iff _ _).1 e).1
    simp [k2] at this
   ·rw [if_neg (by omega), need_eq (by simp only [List.length_nil]; omega), Option.bind_some, rs]
    show some _ = some _
    congr 1
    rw [show decide (0 < (v.List_.length : Int)) = true from decide_eq_true (by omega), Bool.true_and, decide_eq_decide, value_eq_iff]
    simp [k2]
  ·rw [if_neg k2, if_neg k2]
   by_cases k4 : v.Kind = 4
   ·rw [if_pos k4, if_neg (show ¬ v.Kind = 3 by omega), if_pos k4]
    by_cases h0 : v.List_.length = 0
    ·rw [if_neg (by omega), Option.bind_some]
     refine ⟨_, may_end (α := Unit) false v.Text [] v.Hash v.ZSet (by simp) qh qz, ?_⟩
     unfold mewsref19.Set
     rw [if_pos (by omega), Option.bind_some, rs]
     show some _ = some _
     congr 1
     rw [Bool.false_and]
     refine decide_eq_false fun e => ?_
     have := ((value_eq_iff _ _).1 e).1
     simp [k4] at this
    ·rw [if_pos (by omega), rises1 v (by omega) (by omega), Option.bind_some, Option.bind_some]
     refine ⟨_, may_end (α := Unit) _ v.Text [] v.Hash v.ZSet (by simp) qh qz, ?_⟩
     obtain ⟨r, e1, e2⟩ := rSet_eq v.List_ ql (by omega)
     rw [e1, Option.bind_some, rs]
     show some _ = some _
     congr 1
     rw [← Bool.decide_and, decide_eq_decide, value_eq_iff, ← e2]
     simp [k4]
     constructor
     ·rintro ⟨a1, a2, a3, a4⟩; exact ⟨a2, a1, a3, a4⟩
     ·rintro ⟨a1, a2, a3, a4⟩; exact ⟨a2, a1, a3, a4⟩
   ·rw [if_neg k4]
    by_cases k3 : v.Kind = 3
    ·rw [if_pos k3, if_pos k3]
     by_cases h0 : v.Hash.length = 0
     ·rw [if_neg (by omega), Option.bind_some]
      refine ⟨_, may_end (α := Unit) false v.Text v.List_ [] v.ZSet ql (by simp) qz, ?_⟩
      unfold mewsref19.Hash
      rw [if_pos (by omega), Option.bind_some, rs]
      show some _ = some _
      congr 1
      rw [Bool.false_and]
      refine decide_eq_false fun e => ?_
      have := ((value_eq_iff _ _).1 e).1
      simp [k3] at this
     ·rw [if_pos (by omega), rises2 v (by omega) (by omega), Option.bind_some, Option.bind_some]
      refine ⟨_, may_end (α := Unit) _ v.Text v.List_ [] v.ZSet ql (by simp) qz, ?_⟩
      obtain ⟨r, e1, e2⟩ := rHash_eq v.Hash qh (by omega)
      rw [e1, Option.bind_some, rs]
      show some _ = some _
      congr 1
      rw [← Bool.decide_and, decide_eq_decide, value_eq_iff, ← e2]
      simp [k3]
      constructor
      ·rintro ⟨a1, a2, a3, a4⟩; exact ⟨a3, a1, a2, a4⟩
      ·rintro ⟨a1, a2, a3, a4⟩; exact ⟨a2, a3, a1, a4⟩
    ·rw [if_neg k3, if_neg k3, if_neg k4]
     by_cases k5 : v.Kind = 5
     ·rw [if_pos k5, if_pos k5]
      by_cases h0 : v.ZSet.length = 0
      ·rw [if_neg (by omega), Option.bind_some]
       refine ⟨_, may_end (α := Unit) false v.Text v.List_ v.Hash [] ql qh (by simp), ?_⟩
       unfold mewsref19.ZSet
       rw [if_pos (by omega), Option.bind_some, rs]
       show some _ = some _
       congr 1
       rw [Bool.false_and]
       refine decide_eq_false fun e => ?_
       have := ((value_eq_iff _ _).1 e).1
       simp [k5] at this
      ·rw [if_pos (by omega), rises3 v (by omega) (by omega), Option.bind_some]
       have hst : (if decide (ZAsc v.ZSet) = true then (charge.once v.ZSet).bind fun r64 => some (r64, v.Text, v.List_, v.Hash, ([] : List api.Scored)) else some (false, v.Text, v.List_, v.Hash, ([] : List api.Scored)) : Option (Bool × Str × List Str × List api.Field × List api.Scored)) = some (decide (ZGood v.ZSet), v.Text, v.List_, v.Hash, []) := by
        by_cases ha : ZAsc v.ZSet
        ·rw [if_pos (decide_eq_true ha), once_eq _ qz, Option.bind_some]
         congr 2
         rw [decide_eq_decide]
         exact ⟨fun h => ⟨ha, h⟩, fun h => h.one⟩
        ·rw [if_neg (by simpa using ha)]
         congr 2
         exact (decide_eq_false fun h => ha h.asc).symm
       rw [hst, Option.bind_some]
       refine ⟨_, may_end (α := Unit) _ v.Text v.List_ v.Hash [] ql qh (by simp), ?_⟩
       obtain ⟨r, e1, e2⟩ := rZSet_eq v.ZSet qz (by omega)
       rw [e1, Option.bind_some, rs]
       show some _ = some _
       congr 1
       rw [← Bool.decide_and, decide_eq_decide, value_eq_iff, ← e2]
       simp [k5]
       constructor
       ·rintro ⟨a1, a2, a3, a4⟩; exact ⟨a4, a1, a2, a3⟩
       ·rintro ⟨a1, a2, a3, a4⟩; exact ⟨a2, a3, a4, a1⟩
     ·rw [if_neg k5, if_neg k5, Option.bind_some]
      exact ⟨false, rfl, rfl⟩

end Go.Pu

set_option maxHeartbeats 0
set_option maxRecDepth 100000
namespace Go.Pu
open Go.Lift

theorem sum_sub {α : Type} (g : α → Nat) : ∀ (r l : List α), r.Nodup → (∀ x, x ∈ r → x ∈ l) → sumL g r ≤ sumL g l
 | [], l, _, _ => Nat.zero_le _
 | x :: r, l, hn, hs => by
  obtain ⟨l1, l2, e⟩ := List.append_of_mem (hs x (List.mem_cons_self ..))
  rw [List.nodup_cons] at hn
  have ih := sum_sub g r (l1 ++ l2) hn.2 fun y hy => by
   have := hs y (List.mem_cons_of_mem _ hy)
   rw [e, List.mem_append, List.mem_cons] at this
   rw [List.mem_append]
   rcases this with h | rfl | h
   ·exact .inl h
   ·exact absurd hy hn.1
   ·exact .inr h
  rw [e, sumL_append]
  rw [sumL_append] at ih
  have : ∀ t : List α, sumL g (x :: t) = g x + sumL g t := fun t => by simp [sumL]
  rw [this, this]
  omega

theorem same_self (a : api.Value) (h1 : a.List_.length ≤ 1000000000000000) (h2 : a.Hash.length ≤ 1000000000000000) (h3 : a.ZSet.length ≤ 1000000000000000) : charge.Same a a = some true := by
 rw [same_eq a a h1 h2 h3, decide_eq_true rfl]
theorem rsame_slf (a : api.Value) (h1 : a.List_.length ≤ 1000000000000000) (h2 : a.Hash.length ≤ 1000000000000000) (h3 : a.ZSet.length ≤ 1000000000000000) : mewsref19.Same a a = some true := by
 rw [rsame_eq a a h1 h2 h3, decide_eq_true rfl]

theorem may_of {v : api.Value} {b : Bool} (h : SmallV v) (hr : mewsref19.May v = some b) : charge.May v = some b := by
 obtain ⟨c, h1, h2⟩ := May_eq v h
 rw [h1, ← h2, hr]

theorem may_no : charge.May noV = some false := may_of ⟨by simp [noV], by simp [noV, sumL], by simp [noV, sumL], by simp [noV, sumL]⟩ (by
 unfold mewsref19.May
 rw [if_neg (by decide), if_neg (by decide), if_neg (by decide), if_neg (by decide), if_neg (by decide)])
theorem may_text : charge.May { Kind := 1, Text := [], List_ := [], Hash := [], ZSet := [] } = some true := may_of ⟨by simp, by simp [sumL], by simp [sumL], by simp [sumL]⟩ (by
 unfold mewsref19.May
 rw [if_pos rfl]
 show ((mewsref19.Same _ { Kind := 1, Text := [], List_ := [], Hash := [], ZSet := [] }).bind _) = _
 rw [rsame_slf _ (by simp) (by simp) (by simp)]
 rfl)
theorem len_s (r : List Str) (h : sumL gS r ≤ 3000) : r.length ≤ 3000 := Nat.le_trans (sumL_len (g := gS) (fun x => by unfold gS; omega) r) h
theorem len_f (r : List api.Field) (h : sumL gF r ≤ 3000) : r.length ≤ 3000 := Nat.le_trans (sumL_len (g := gF) (fun x => by unfold gF; omega) r) h
theorem len_z (r : List api.Scored) (h : sumL gZ r ≤ 3000) : r.length ≤ 3000 := Nat.le_trans (sumL_len (g := gZ) (fun x => by unfold gZ; omega) r) h

theorem may_set (r : List Str) (h : Asc r) (h0 : r ≠ []) (hs : sumL gS r ≤ 3000) : charge.May (setV r) = some true := may_of ⟨by simp [setV], hs, by simp [setV, sumL], by simp [setV, sumL]⟩ (by
 have hl := len_s r hs
 obtain ⟨r', h1, h2⟩ := rSet_eq r hl (List.length_pos_iff.2 h0)
 have := h2.2 h
 subst this
 unfold mewsref19.May
 rw [show (setV r).Kind = 4 from rfl, if_neg (show ¬ (4 : Int) = 1 by decide), if_neg (show ¬ (4 : Int) = 2 by decide), if_neg (show ¬ (4 : Int) = 3 by decide), if_pos (show (4 : Int) = 4 from rfl)]
 show ((mewsref19.Set r).bind _) = _
 rw [h1, Option.bind_some]
 show ((mewsref19.Same (setV r) (setV r)).bind _) = _
 rw [rsame_slf _ (by show r.length ≤ _; omega) (by simp [setV]) (by simp [setV])]
 rfl)
theorem may_hash (r : List api.Field) (h : Asc (r.map (·.Key))) (h0 : r ≠ []) (hs : sumL gF r ≤ 3000) : charge.May (hashV r) = some true := may_of ⟨by simp [hashV], by simp [hashV, sumL], hs, by simp [hashV, sumL]⟩ (by
 have hl := len_f r hs
 obtain ⟨r', h1, h2⟩ := rHash_eq r hl (List.length_pos_iff.2 h0)
 have := h2.2 h
 subst this
 unfold mewsref19.May
 rw [show (hashV r).Kind = 3 from rfl, if_neg (show ¬ (3 : Int) = 1 by decide), if_neg (show ¬ (3 : Int) = 2 by decide), if_pos (show (3 : Int) = 3 from rfl)]
 show ((mewsref19.Hash r).bind _) = _
 rw [h1, Option.bind_some]
 show ((mewsref19.Same (hashV r) (hashV r)).bind _) = _
 rw [rsame_slf _ (by simp [hashV]) (by show r.length ≤ _; omega) (by simp [hashV])]
 rfl)
theorem may_zset (r : List api.Scored) (h : ZGood r) (h0 : r ≠ []) (hs : sumL gZ r ≤ 3000) : charge.May (zsetV r) = some true := may_of ⟨by simp [zsetV], by simp [zsetV, sumL], by simp [zsetV, sumL], hs⟩ (by
 have hl := len_z r hs
 obtain ⟨r', h1, h2⟩ := rZSet_eq r hl (List.length_pos_iff.2 h0)
 have := h2.2 h
 subst this
 unfold mewsref19.May
 rw [show (zsetV r).Kind = 5 from rfl, if_neg (show ¬ (5 : Int) = 1 by decide), if_neg (show ¬ (5 : Int) = 2 by decide), if_neg (show ¬ (5 : Int) = 3 by decide), if_neg (show ¬ (5 : Int) = 4 by decide), if_pos (show (5 : Int) = 5 from rfl)]
 show ((mewsref19.ZSet r).bind _) = _
 rw [h1, Option.bind_some]
 show ((mewsref19.Same (zsetV r) (zsetV r)).bind _) = _
 rw [rsame_slf _ (by simp [zsetV]) (by simp [zsetV]) (by show r.length ≤ _; omega)]
 rfl)

theorem turned_eq (l : List Str) (hl : l.length ≤ 3000) : mewslaw19.ChargeMay.loop0 l ⟨[], 0⟩ = some l.reverse := by
 unfold mewslaw19.ChargeMay.loop0
 refine whileO_knownE ⟨[], 0⟩ (fun i => (⟨l.reverse.take i, (i : Int)⟩ : mewslaw19.ChargeMay.S0)) l.length (fun i hi => ?_) ?_
 ·unfold mewslaw19.ChargeMay.body0
  simp only []
  have hw : IntKind.wrap .i64 (IntKind.wrap .i64 ((l.length : Int) - 1) - (i : Int)) = ((l.length - 1 - i : Nat) : Int) := by
   rw [i64w (n := (l.length : Int) - 1) (by omega) (by omega), i64w (by omega) (by omega)]; omega
  rw [if_pos (by omega), hw, need_eq ⟨by omega, by omega⟩, ix_get (by omega : l.length - 1 - i < l.length), need_eq (by rw [List.length_take, List.length_reverse]; simp; omega), i64w (by omega) (by omega)]
  have e : l.reverse.take (i + 1) = l.reverse.take i ++ [l[l.length - 1 - i]'(by omega)] := by
   rw [List.take_add_one, List.getElem?_eq_getElem (by rw [List.length_reverse]; exact hi), List.getElem_reverse]
   rfl
  rw [e]
  rfl
 ·unfold mewslaw19.ChargeMay.body0
  simp only []
  rw [if_neg (by omega), List.take_of_length_le (by rw [List.length_reverse]; omega)]

/-- What a law of values says of a set, a hash, a sorted set made of things. -/
theorem set_all (l : List Str) (hs : sumL gS l ≤ 3000) : ∃ v, charge.Set l = some v ∧ charge.Set l.reverse = some v ∧ charge.Same v v = some true ∧ charge.May v = some (decide (0 < (l.length : Int))) ∧ charge.Set v.List_ = some v ∧ ((l.length : Int) = 0 → v = noV) := by
 have hl := len_s l hs
 by_cases h0 : l = []
 ·subst h0
  exact ⟨noV, rfl, rfl, same_self _ (by simp [noV]) (by simp [noV]) (by simp [noV]), may_no, rfl, fun _ => rfl⟩
 ·have hp := List.length_pos_iff.2 h0
  obtain ⟨r, a1, a2, a3⟩ := set_eq l hl hp
  obtain ⟨r2, b1, b2, b3⟩ := set_eq l.reverse (by rw [List.length_reverse]; exact hl) (by rw [List.length_reverse]; exact hp)
  have e : r2 = r := asc_ext b2 a2 fun x => by rw [b3, a3, List.mem_reverse]
  subst e
  have hr0 : r2 ≠ [] := fun e => by
   cases l with
   | nil => exact h0 rfl
   | cons x l => have := (a3 x).2 (by simp); rw [e] at this; cases this
  have hrs : sumL gS r2 ≤ 3000 := Nat.le_trans (sum_sub gS r2 l a2.nodup fun x hx => (a3 x).1 hx) hs
  have hrl := len_s r2 hrs
  obtain ⟨r3, c1, c2, c3⟩ := set_eq r2 hrl (List.length_pos_iff.2 hr0)
  have e3 : r3 = r2 := asc_ext c2 a2 c3
  subst e3
  refine ⟨setV r3, a1, b1, same_self _ (by show r3.length ≤ _; omega) (by simp [setV]) (by simp [setV]), ?_, c1, fun h => by omega⟩
  rw [decide_eq_true (by omega)]
  exact may_set r3 a2 hr0 hrs
theorem hash_all (l : List api.Field) (hs : sumL gF l ≤ 3000) : ∃ v, charge.Hash l = some v ∧ charge.Same v v = some true ∧ charge.May v = some (decide (0 < (l.length : Int))) ∧ charge.Hash v.Hash = some v := by
 have hl := len_f l hs
 obtain ⟨r, a1, a2, a3, a4⟩ := hash_eq l hl
 by_cases h0 : l = []
 ·rw [if_pos h0] at a1
  subst h0
  exact ⟨noV, a1, same_self _ (by simp [noV]) (by simp [noV]) (by simp [noV]), may_no, a1⟩
 ·have hp := List.length_pos_iff.2 h0
  rw [if_neg h0] at a1
  have hr0 : r ≠ [] := fun e => h0 (a4.1 e)
  have hn : r.Nodup := (List.pairwise_map.1 a2.asc.nodup).imp fun {a b} h e => h (congrArg _ e)
  have hrs : sumL gF r ≤ 3000 := Nat.le_trans (sum_sub gF r l hn a3) hs
  have hrl := len_f r hrs
  obtain ⟨r3, c1, c2, c3, c4⟩ := hash_eq r hrl
  obtain ⟨r4, d1, d2⟩ := rHash_full r hrl (List.length_pos_iff.2 hr0)
  obtain ⟨r5, f1, f2⟩ := rHash_eq r hrl (List.length_pos_iff.2 hr0)
  have e4 : r4 = r5 := by
   rw [d1] at f1
   exact congrArg api.Value.Hash (Option.some.inj f1)
  have e3 : r3 = r := (c2.ext d2).trans (e4.trans (f2.2 a2.asc).symm)
  rw [if_neg hr0, e3] at c1
  refine ⟨hashV r, a1, same_self _ (by simp [hashV]) (by show r.length ≤ _; omega) (by simp [hashV]), ?_, c1⟩
  rw [decide_eq_true (by omega)]
  exact may_hash r a2.asc hr0 hrs
theorem zset_all (l : List api.Scored) (hs : sumL gZ l ≤ 3000) : ∃ v, charge.ZSet l = some v ∧ charge.Same v v = some true ∧ charge.May v = some (decide (0 < (l.length : Int))) ∧ charge.ZSet v.ZSet = some v := by
 have hl := len_z l hs
 obtain ⟨r, a1, a2, a3, a4⟩ := zset_eq l hl
 by_cases h0 : l = []
 ·rw [if_pos h0] at a1
  subst h0
  exact ⟨noV, a1, same_self _ (by simp [noV]) (by simp [noV]) (by simp [noV]), may_no, a1⟩
 ·have hp := List.length_pos_iff.2 h0
  rw [if_neg h0] at a1
  have hr0 : r ≠ [] := fun e => h0 (a4.1 e)
  have hn : r.Nodup := (List.pairwise_map.1 a2.one).imp fun {a b} h e => h (congrArg _ e)
  have hrs : sumL gZ r ≤ 3000 := Nat.le_trans (sum_sub gZ r l hn fun x hx => by
   have := (a3 x).1 hx
   unfold lastZ at this
   exact List.mem_reverse.1 (List.mem_of_find?_eq_some this)) hs
  have hrl := len_z r hrs
  obtain ⟨r3, c1, c2, c3, c4⟩ := zset_eq r hrl
  obtain ⟨r4, d1, d2, d3, d4⟩ := rZSet_full r hrl (List.length_pos_iff.2 hr0)
  have e3 : r3 = r := (c2.ext d2 fun x => by rw [c3, d3]).trans (d4 a2).symm
  rw [if_neg hr0, e3] at c1
  refine ⟨zsetV r, a1, same_self _ (by simp [zsetV]) (by simp [zsetV]) (by show r.length ≤ _; omega), ?_, c1⟩
  rw [decide_eq_true (by omega)]
  exact may_zset r a2 hr0 hrs

theorem ChargeMay_pure (l : List Str) (h : List api.Field) (z : List api.Scored) (hv : FitsV { Kind := 0, Text := [], List_ := l, Hash := h, ZSet := z }) : mewslaw19.ChargeMay l h z = some true := by
 obtain ⟨c, ec, hc⟩ := Far_eq [({ Kind := 0, Text := [], List_ := l, Hash := h, ZSet := z } : api.Value)] (by simp) (fun v hv' => by
  simp only [List.mem_cons, List.not_mem_nil, or_false] at hv'
  rw [hv']; exact hv)
 unfold mewslaw19.ChargeMay
 rw [ec, Option.bind_some, alive19]
 cases c with
 | true => rfl
 | false =>
  have hsm := hc rfl { Kind := 0, Text := [], List_ := l, Hash := h, ZSet := z } (by simp)
  have hl : sumL gS l ≤ 3000 := hsm.l
  have hh : sumL gF h ≤ 3000 := hsm.h
  have hz : sumL gZ z ≤ 3000 := hsm.z
  obtain ⟨s, a1, a2, a3, a4, a5, a6⟩ := set_all l hl
  obtain ⟨f, b1, b2, b3, b4⟩ := hash_all h hh
  obtain ⟨x, c1, c2, c3, c4⟩ := zset_all z hz
  rw [if_neg (by decide), turned_eq l (len_s l hl), Option.bind_some, a1, Option.bind_some, a2, Option.bind_some, b1, Option.bind_some, c1, Option.bind_some]
  have hfirst : ((charge.Same s s).bind fun r184 => if (!r184) = true then some true else (charge.May s).bind fun r186 => if (!(r186 == (decide (0 < (l.length : Int))))) = true then some true else (charge.May f).bind fun r188 => if (!(r188 == (decide (0 < (h.length : Int))))) = true then some true else (charge.May x).bind fun r190 => if (!(r190 == (decide (0 < (z.length : Int))))) = true then some true else if (l.length : Int) = 0 then (charge.Same s ({ Kind := 0, Text := ([] : List UInt8), List_ := ([] : List (List UInt8)), Hash := ([] : List api.Field), ZSet := ([] : List api.Scored) } : api.Value)).bind fun r193 => some (!r193) else some false) = some false := by
   rw [a3, Option.bind_some, if_neg (by decide), a4, Option.bind_some, if_neg (by simp), b3, Option.bind_some, if_neg (by simp), c3, Option.bind_some, if_neg (by simp)]
   by_cases h0 : (l.length : Int) = 0
   ·rw [if_pos h0, a6 h0]
    show ((charge.Same noV noV).bind _) = _
    rw [same_self _ (by simp [noV]) (by simp [noV]) (by simp [noV])]
    rfl
   ·rw [if_neg h0]
  rw [hfirst, Option.bind_some, if_neg (by decide), a5, Option.bind_some, a3, Option.bind_some, if_pos rfl, b4, Option.bind_some, b2, Option.bind_some, if_pos rfl, c4, Option.bind_some, c2, Option.bind_some, if_pos rfl]
  unfold charge.Text
  rw [Option.bind_some, may_text, Option.bind_some, if_pos rfl]
  rfl

end Go.Pu

namespace Go.Pu.Pure
open Go.Lift Go.Pu
theorem ChargeMay {a0 : List (List UInt8)} {a1 : List api.Field} {a2 : List api.Scored} (h0 : a0.length * 16 ≤ 140737488351232 ∧ ∀ y0, y0 ∈ a0 → y0.length ≤ 140737488351232) (h1 : a1.length * 32 ≤ 140737488351232 ∧ ∀ y0, y0 ∈ a1 → api.Field.wf y0) (h2 : a2.length * 24 ≤ 140737488351232 ∧ ∀ y0, y0 ∈ a2 → api.Scored.wf y0) : mewslaw19.ChargeMay a0 a1 a2 = some true :=
 ChargeMay_pure a0 a1 a2 ⟨by show 0 < _; omega, by show a0.length < _; omega, fun x hx => by have := h0.2 x hx; unfold gS; omega, by show a1.length < _; omega, fun x hx => by have := h1.2 x hx; have a := this.1; have b := this.2; unfold gF; omega, by show a2.length < _; omega, fun x hx => by have := h2.2 x hx; have a := this.1; unfold gZ; omega⟩
end Go.Pu.Pure
