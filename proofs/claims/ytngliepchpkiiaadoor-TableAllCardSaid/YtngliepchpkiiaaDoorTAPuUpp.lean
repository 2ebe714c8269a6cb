import Derived.Test.YtngliepchpkiiaaDoorTAPuBase
import Derived.Test.YtngliepchpkiiaaDoorTAC
set_option maxHeartbeats 0
set_option maxRecDepth 100000
namespace Go.Pu
open Go.Lift

theorem u8_toNat (c : UInt8) : u8 (c.toNat : Int) = c := by simp [u8]
theorem isU8_toNat (c : UInt8) : IsU8 (c.toNat : Int) := by
 have := c.toNat_lt
 unfold IsU8; omega
/-! ### Upper -/
def upC (c : UInt8) : UInt8 := if 97 ≤ c.toNat ∧ c.toNat ≤ 122 then UInt8.ofNat (c.toNat - 32) else c

theorem upper_byte (c : UInt8) : (if 97 ≤ (c.toNat : Int) then decide ((c.toNat : Int) ≤ 122) else false) = decide (97 ≤ c.toNat ∧ c.toNat ≤ 122) := by
 by_cases h : 97 ≤ (c.toNat : Int)
 ·rw [if_pos h]; apply decide_eq_decide.2; omega
 ·rw [if_neg h]; symm; rw [decide_eq_false_iff_not]; omega

theorem Upper_eq (s : List UInt8) (hs : s.length ≤ 1000000000) : table.Upper s = some (s.map upC) := by
 unfold table.Upper
 rw [need_eq (by omega)]
 have hloop : table.Upper.loop0 s ⟨0, s⟩ = some (s.map upC) := by
  unfold table.Upper.loop0
  let st : Nat → table.Upper.S0 := fun i => ⟨(i : Int), (s.take i).map upC ++ s.drop i⟩
  refine whileO_knownE _ st s.length (fun i hi => ?_) ?_ (by simp [st])
  ·have hl : ((s.take i).map upC ++ s.drop i).length = s.length := by simp; omega
   have hx : ix ((s.take i).map upC ++ s.drop i) (i : Int) = s[i] := by
    rw [ix_get (by omega), List.getElem_append_right (by simp; omega)]
    simp [List.getElem_drop]
    congr 1; omega
   have hc := s[i].toNat_lt
   have hnext : (s.take (i + 1)).map upC ++ s.drop (i + 1) = upd ((s.take i).map upC ++ s.drop i) (i : Int) (upC s[i]) := by
    unfold upd
    rw [Int.toNat_natCast, List.take_add_one, List.getElem?_eq_getElem hi]
    simp only [Option.toList_some, List.map_append, List.map_cons, List.map_nil]
    rw [List.set_append_right _ _ (by simp; omega)]
    have e0 : i - (List.map upC (s.take i)).length = 0 := by simp; omega
    rw [e0, List.drop_eq_getElem_cons hi, List.set_cons_zero, List.append_assoc]
    rfl
   unfold table.Upper.body0
   simp only [st, letO]
   rw [if_pos (by omega), need_eq ⟨by omega, by omega⟩, need_eq ⟨by omega, by omega⟩, hx, upper_byte, hnext]
   by_cases h : 97 ≤ s[i].toNat ∧ s[i].toNat ≤ 122
   ·rw [decide_eq_true h, if_pos rfl, need_eq ⟨by omega, by omega⟩, need_eq ⟨by omega, by omega⟩, u8w (n := (s[i].toNat : Int) - 97) (by omega) (by omega), u8w (by omega) (by omega)]
    have e : (s[i].toNat : Int) - 97 + 65 = ((upC s[i]).toNat : Int) := by
     unfold upC
     rw [if_pos h]
     simp; omega
    rw [e, need_eq (isU8_toNat _), u8_toNat]
    simp only [Option.bind_some]
    rw [i64w (by omega) (by omega)]
    rfl
   ·rw [decide_eq_false h]
    simp only [Bool.false_eq_true, if_false, Option.bind_some]
    have e : upC s[i] = s[i] := by unfold upC; rw [if_neg h]
    rw [e, i64w (by omega) (by omega)]
    have : upd ((s.take i).map upC ++ s.drop i) (i : Int) s[i] = (s.take i).map upC ++ s.drop i := by
     unfold upd
     rw [Int.toNat_natCast]
     have h2 : ((s.take i).map upC ++ s.drop i)[i]'(by omega) = s[i] := by
      rw [ix_get (by omega)] at hx; exact hx
     rw [← h2, List.set_getElem_self]
    rw [this]
    rfl
  ·unfold table.Upper.body0
   simp only [st]
   have hl : ((s.take s.length).map upC ++ s.drop s.length) = s.map upC := by simp
   rw [if_neg (by omega), hl]
 rw [hloop]
 rfl

end Go.Pu
