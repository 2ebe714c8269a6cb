import Derived.Test.YtnlnolbgakfofaaCVPuChg5
set_option maxHeartbeats 0
set_option maxRecDepth 100000
namespace Go.Pu
open Go.Lift

def noVal : api.Value := { Kind := 0, Text := [], List_ := [], Hash := [], ZSet := [] }

/-- The end of May: nothing is left over. -/
theorem may_end {α : Type} (ok : Bool) (T : Str) (L : List Str) (H : List api.Field) (Z : List api.Scored) (h1 : L.length ≤ 3000) (h2 : H.length ≤ 3000) (h3 : Z.length ≤ 3000) :
  ((if ok = true then (charge.Same { Kind := 0, Text := T, List_ := L, Hash := H, ZSet := Z } noVal).bind fun r76 => some r76 else some false : Option Bool).bind fun s72 => some s72) = some (ok && decide (T = [] ∧ L = [] ∧ H = [] ∧ Z = [])) := by
 cases ok with
 | false => rfl
 | true =>
  rw [if_pos rfl, same_eq _ _ (by show L.length ≤ _; omega) (by show H.length ≤ _; omega) (by show Z.length ≤ _; omega)]
  show some (decide ({ Kind := 0, Text := T, List_ := L, Hash := H, ZSet := Z } = noVal)) = _
  rw [Bool.true_and]
  congr 1
  rw [decide_eq_decide, value_eq_iff]
  simp [noVal]

open Classical in
theorem May_eq (v : api.Value) (h : SmallV v) : ∃ b, charge.May v = some b ∧ mewsref19.May v = some b := by
 obtain ⟨ql, qh, qz⟩ := h.lens
 have rs : ∀ w, mewsref19.Same v w = some (decide (v = w)) := fun w => by
  have := rsame_eq v w (by omega) (by omega) (by omega)
  rw [this]
 unfold charge.May mewsref19.May
 by_cases k1 : v.Kind = 1
 ·rw [if_pos k1, if_pos k1, Option.bind_some]
  refine ⟨_, may_end (α := Unit) true [] v.List_ v.Hash v.ZSet ql qh qz, ?_⟩
  show ((mewsref19.Same v { Kind := 1, Text := v.Text, List_ := [], Hash := [], ZSet := [] }).bind _) = _
  rw [rs]
  show some _ = some _
  congr 1
  rw [Bool.true_and, decide_eq_decide, value_eq_iff]
  simp [k1]
 ·rw [if_neg k1, if_neg k1]
  by_cases k2 : v.Kind = 2
  ·rw [if_pos k2, if_pos k2, Option.bind_some]
   refine ⟨_, may_end (α := Unit) _ v.Text [] v.Hash v.ZSet (by simp) qh qz, ?_⟩
   unfold mewsref19.List_
   by_cases h0 : v.List_.length = 0
   ·rw [if_pos (by omega), Option.bind_some, rs]
    show some _ = some _
    congr 1
    rw [show decide (0 < (v.List_.length : Int)) = false from decide_eq_false (by omega), Bool.false_and]
    refine decide_eq_false fun e => ?_
    have := ((value_eq_iff _ _).1 e).1
    simp [k2] at this
   ·rw [if_neg (by omega), need_eq (by simp only [List.length_nil]; omega), Option.bind_some, rs]
    show some _ = some _
    congr 1
    rw [show decide (0 < (v.List_.length : Int)) = true from decide_eq_true (by omega), Bool.true_and, decide_eq_decide, value_eq_iff]
    simp [k2]
  ·rw [if_neg k2, if_neg k2]
   by_cases k4 : v.Kind = 4
   ·rw [if_pos k4, if_neg (show ¬ v.Kind = 3 by omega), if_pos k4]
    by_cases h0 : v.List_.length = 0
    ·rw [if_neg (by omega), Option.bind_some]
     refine ⟨_, may_end (α := Unit) false v.Text [] v.Hash v.ZSet (by simp) qh qz, ?_⟩
     unfold mewsref19.Set
     rw [if_pos (by omega), Option.bind_some, rs]
     show some _ = some _
     congr 1
     rw [Bool.false_and]
     refine decide_eq_false fun e => ?_
     have := ((value_eq_iff _ _).1 e).1
     simp [k4] at this
    ·rw [if_pos (by omega), rises1 v (by omega) (by omega), Option.bind_some, Option.bind_some]
     refine ⟨_, may_end (α := Unit) _ v.Text [] v.Hash v.ZSet (by simp) qh qz, ?_⟩
     obtain ⟨r, e1, e2⟩ := rSet_eq v.List_ ql (by omega)
     rw [e1, Option.bind_some, rs]
     show some _ = some _
     congr 1
     rw [← Bool.decide_and, decide_eq_decide, value_eq_iff, ← e2]
     simp [k4]
     constructor
     ·rintro ⟨a1, a2, a3, a4⟩; exact ⟨a2, a1, a3, a4⟩
     ·rintro ⟨a1, a2, a3, a4⟩; exact ⟨a2, a1, a3, a4⟩
   ·rw [if_neg k4]
    by_cases k3 : v.Kind = 3
    ·rw [if_pos k3, if_pos k3]
     by_cases h0 : v.Hash.length = 0
     ·rw [if_neg (by omega), Option.bind_some]
      refine ⟨_, may_end (α := Unit) false v.Text v.List_ [] v.ZSet ql (by simp) qz, ?_⟩
      unfold mewsref19.Hash
      rw [if_pos (by omega), Option.bind_some, rs]
      show some _ = some _
      congr 1
      rw [Bool.false_and]
      refine decide_eq_false fun e => ?_
      have := ((value_eq_iff _ _).1 e).1
      simp [k3] at this
     ·rw [if_pos (by omega), rises2 v (by omega) (by omega), Option.bind_some, Option.bind_some]
      refine ⟨_, may_end (α := Unit) _ v.Text v.List_ [] v.ZSet ql (by simp) qz, ?_⟩
      obtain ⟨r, e1, e2⟩ := rHash_eq v.Hash qh (by omega)
      rw [e1, Option.bind_some, rs]
      show some _ = some _
      congr 1
      rw [← Bool.decide_and, decide_eq_decide, value_eq_iff, ← e2]
      simp [k3]
      constructor
      ·rintro ⟨a1, a2, a3, a4⟩; exact ⟨a3, a1, a2, a4⟩
      ·rintro ⟨a1, a2, a3, a4⟩; exact ⟨a2, a3, a1, a4⟩
    ·rw [if_neg k3, if_neg k3, if_neg k4]
     by_cases k5 : v.Kind = 5
     ·rw [if_pos k5, if_pos k5]
      by_cases h0 : v.ZSet.length = 0
      ·rw [if_neg (by omega), Option.bind_some]
       refine ⟨_, may_end (α := Unit) false v.Text v.List_ v.Hash [] ql qh (by simp), ?_⟩
       unfold mewsref19.ZSet
       rw [if_pos (by omega), Option.bind_some, rs]
       show some _ = some _
       congr 1
       rw [Bool.false_and]
       refine decide_eq_false fun e => ?_
       have := ((value_eq_iff _ _).1 e).1
       simp [k5] at this
      ·rw [if_pos (by omega), rises3 v (by omega) (by omega), Option.bind_some]
       have hst : (if decide (ZAsc v.ZSet) = true then (charge.once v.ZSet).bind fun r64 => some (r64, v.Text, v.List_, v.Hash, ([] : List api.Scored)) else some (false, v.Text, v.List_, v.Hash, ([] : List api.Scored)) : Option (Bool × Str × List Str × List api.Field × List api.Scored)) = some (decide (ZGood v.ZSet), v.Text, v.List_, v.Hash, []) := by
        by_cases ha : ZAsc v.ZSet
        ·rw [if_pos (decide_eq_true ha), once_eq _ qz, Option.bind_some]
         congr 2
         rw [decide_eq_decide]
         exact ⟨fun h => ⟨ha, h⟩, fun h => h.one⟩
        ·rw [if_neg (by simpa using ha)]
         congr 2
         exact (decide_eq_false fun h => ha h.asc).symm
       rw [hst, Option.bind_some]
       refine ⟨_, may_end (α := Unit) _ v.Text v.List_ v.Hash [] ql qh (by simp), ?_⟩
       obtain ⟨r, e1, e2⟩ := rZSet_eq v.ZSet qz (by omega)
       rw [e1, Option.bind_some, rs]
       show some _ = some _
       congr 1
       rw [← Bool.decide_and, decide_eq_decide, value_eq_iff, ← e2]
       simp [k5]
       constructor
       ·rintro ⟨a1, a2, a3, a4⟩; exact ⟨a4, a1, a2, a3⟩
       ·rintro ⟨a1, a2, a3, a4⟩; exact ⟨a2, a3, a4, a1⟩
     ·rw [if_neg k5, if_neg k5, Option.bind_some]
      exact ⟨false, rfl, rfl⟩

theorem ChargeValues_pure (a b : api.Value) (e : api.Entry) (ha : FitsV a) (hb : FitsV b) (he : FitsV e.Val) (hk : e.Key.length < 1000000000000000) : mewslaw19.ChargeValues a b e = some true := by
 obtain ⟨c, ec, hc⟩ := Far_eq [a, b, e.Val] (by simp) (fun v hv => by
  simp only [List.mem_cons, List.not_mem_nil, or_false] at hv
  rcases hv with rfl | rfl | rfl
  ·exact ha
  ·exact hb
  ·exact he)
 unfold mewslaw19.ChargeValues
 rw [ec, Option.bind_some, alive19]
 cases c with
 | true => rfl
 | false =>
  have sa := hc rfl a (by simp)
  have sb := hc rfl b (by simp)
  have se := hc rfl e.Val (by simp)
  rw [if_neg (by decide), Option.bind_some]
  by_cases hbig : 1000 < (e.Key.length : Int)
  ·rw [decide_eq_true hbig]; rfl
  ·rw [decide_eq_false hbig, if_neg (by decide)]
   obtain ⟨m, m1, m2⟩ := May_eq a sa
   obtain ⟨ql, qh, qz⟩ := sa.lens
   have q1 := se.c1
   have q3 := se.c3
   have q5 := se.c5
   have q7 := se.c7
   have qt := se.t
   obtain ⟨el, eh, ez⟩ := se.lens
   have hok : Okay e := ⟨by omega, by omega, by omega, by omega, by omega, by omega, by omega, by omega, by omega⟩
   have hkN : kindN e.Val ≤ 120000 := by
    unfold kindN
    repeat' split
    all_goals omega
   have ho0 : ofM e ≤ 200000 := by
    unfold ofM
    split <;> omega
   rw [m1, Option.bind_some, m2, Option.bind_some, if_pos (by simp), same_eq a b (by omega) (by omega) (by omega), Option.bind_some, rsame_eq a b (by omega) (by omega) (by omega), Option.bind_some, if_pos (by simp), same_eq a a (by omega) (by omega) (by omega), Option.bind_some, if_pos (by simp), Of_eq hok, Option.bind_some, rOf_eq hok, Option.bind_some, if_pos rfl, all2_eq hok (by omega), Option.bind_some, Option.bind_some, i64w (by omega) (by omega), if_pos rfl]
   have e6 : charge.Name 2 = some [108, 105, 115, 116] := by decide
   rw [e6, Option.bind_some, if_pos rfl]
   rfl

end Go.Pu

namespace Go.Pu.Pure
open Go.Lift Go.Pu
theorem ChargeValues {a0 a1 : api.Value} {a2 : api.Entry} (h0 : api.Value.wf a0) (h1 : api.Value.wf a1) (h2 : api.Entry.wf a2) : mewslaw19.ChargeValues a0 a1 a2 = some true :=
 ChargeValues_pure a0 a1 a2 (fits_wf h0) (fits_wf h1) (fits_wf h2.2.1) (by have := h2.1; omega)
end Go.Pu.Pure
