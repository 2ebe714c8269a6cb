import Derived.Test.YtngliepchpkiiaaDoorTKPuBase
import Derived.Test.YtngliepchpkiiaaDoorTKC
set_option maxHeartbeats 0
set_option maxRecDepth 100000
namespace Go.Pu
open Go.Lift

theorem u8_toNat (c : UInt8) : u8 (c.toNat : Int) = c := by simp [u8]
theorem isU8_toNat (c : UInt8) : IsU8 (c.toNat : Int) := by
 have := c.toNat_lt
 unfold IsU8; omega
/-! ### Upper -/
def upC (c : UInt8) : UInt8 := if 97 ≤ c.toNat ∧ c.toNat ≤ 122 then UInt8.ofNat (c.toNat - 32) else c

theorem upper_byte (c : UInt8) : (if 97 ≤ (c.toNat : Int) then decide ((c.toNat : Int) ≤ 122) else false) = decide (97 ≤ c.toNat ∧ c.toNat ≤ 122) := by
 by_cases h : 97 ≤ (c.toNat : Int)
 ·rw [if_pos h]; apply decide_eq_decide.2; omega
 ·rw [if_neg h]; symm; rw [decide_eq_false_iff_not]; omega

theorem Upper_eq (s : List UInt8) (hs : s.length ≤ 1000000000) : table.Upper s = some (s.map upC) := by
 unfold table.Upper
 rw [need_eq (by omega)]
 have hloop : table.Upper.loop0 s ⟨0, s⟩ = some (s.map upC) := by
  unfold table.Upper.loop0
  let st : Nat → table.Upper.S0 := fun i => ⟨(i : Int), (s.take i).map upC ++ s.drop i⟩
  refine whileO_knownE _ st s.length (fun i hi => ?_) ?_ (by simp [st])
  ·have hl : ((s.take i).map upC ++ s.drop i).length = s.length := by simp; omega
   have hx : ix ((s.take i).map upC ++ s.drop i) (i : Int) = s[i] := by
    rw [ix_get (by omega), List.getElem_append_right (by simp; omega)]
    simp [List.getElem_drop]
    congr 1; omega
   have hc := s[i].toNat_lt
   have hnext : (s.take (i + 1)).map upC ++ s.drop (i + 1) = upd ((s.take i).map upC ++ s.drop i) (i : Int) (upC s[i]) := by
    unfold upd
    rw [Int.toNat_natCast, List.take_add_one, List.getElem?_eq_getElem hi]
    simp only [Option.toList_some, List.map_append, List.map_cons, List.map_nil]
    rw [List.set_append_right _ _ (by simp; omega)]
    have e0 : i - (List.map upC (s.take i)).length = 0 := by simp; omega
    rw [e0, List.drop_eq_getElem_cons hi, List.set_cons_zero, List.append_assoc]
    rfl
   unfold table.Upper.body0
   simp only [st, letO]
   rw [if_pos (by omega), need_eq ⟨by omega, by omega⟩, need_eq ⟨by omega, by omega⟩, hx, upper_byte, hnext]
   by_cases h : 97 ≤ s[i].toNat ∧ s[i].toNat ≤ 122
   ·rw [decide_eq_true h, if_pos rfl, need_eq ⟨by omega, by omega⟩, need_eq ⟨by omega, by omega⟩, u8w (n := (s[i].toNat : Int) - 97) (by omega) (by omega), u8w (by omega) (by omega)]
    have e : (s[i].toNat : Int) - 97 + 65 = ((upC s[i]).toNat : Int) := by
     unfold upC
     rw [if_pos h]
     simp; omega
    rw [e, need_eq (isU8_toNat _), u8_toNat]
    simp only [Option.bind_some]
    rw [i64w (by omega) (by omega)]
    rfl
   ·rw [decide_eq_false h]
    simp only [Bool.false_eq_true, if_false, Option.bind_some]
    have e : upC s[i] = s[i] := by unfold upC; rw [if_neg h]
    rw [e, i64w (by omega) (by omega)]
    have : upd ((s.take i).map upC ++ s.drop i) (i : Int) s[i] = (s.take i).map upC ++ s.drop i := by
     unfold upd
     rw [Int.toNat_natCast]
     have h2 : ((s.take i).map upC ++ s.drop i)[i]'(by omega) = s[i] := by
      rw [ix_get (by omega)] at hx; exact hx
     rw [← h2, List.set_getElem_self]
    rw [this]
    rfl
  ·unfold table.Upper.body0
   simp only [st]
   have hl : ((s.take s.length).map upC ++ s.drop s.length) = s.map upC := by simp
   rw [if_neg (by omega), hl]
 rw [hloop]
 rfl

theorem letters (k : Nat) (h : k < 26) : bix [97, 98, 99, 100, 101, 102, 103, 104, 105, 106, 107, 108, 109, 110, 111, 112, 113, 114, 115, 116, 117, 118, 119, 120, 121, 122] (k : Int) = 97 + (k : Int) ∧
  sub ([65, 66, 67, 68, 69, 70, 71, 72, 73, 74, 75, 76, 77, 78, 79, 80, 81, 82, 83, 84, 85, 86, 87, 88, 89, 90] : List UInt8) (k : Int) ((k : Int) + 1) = [UInt8.ofNat (65 + k)] := by
 have : ∀ k : Fin 26, bix [97, 98, 99, 100, 101, 102, 103, 104, 105, 106, 107, 108, 109, 110, 111, 112, 113, 114, 115, 116, 117, 118, 119, 120, 121, 122] (k.val : Int) = 97 + (k.val : Int) ∧
  sub ([65, 66, 67, 68, 69, 70, 71, 72, 73, 74, 75, 76, 77, 78, 79, 80, 81, 82, 83, 84, 85, 86, 87, 88, 89, 90] : List UInt8) (k.val : Int) ((k.val : Int) + 1) = [UInt8.ofNat (65 + k.val)] := by decide +kernel
 exact this ⟨k, h⟩

theorem rUpper2_eq (s : List UInt8) (hs : s.length ≤ 1000000000) (out : List UInt8) (i : Nat) (hi : i < s.length) : mewsref28.Upper.loop2 ⟨out, (i : Int)⟩ s ⟨[s[i]], 0⟩ = some [upC s[i]] := by
 have hc := s[i].toNat_lt
 unfold mewsref28.Upper.loop2
 let st : Nat → mewsref28.Upper.S2 := fun k => ⟨[if 97 ≤ s[i].toNat ∧ s[i].toNat < 97 + k then UInt8.ofNat (s[i].toNat - 32) else s[i]], (k : Int)⟩
 refine whileO_knownE _ st 26 (fun k hk => ?_) ?_ (by simp only [st]; rw [if_neg (by omega)]; rfl)
 ·obtain ⟨l1, l2⟩ := letters k hk
  unfold mewsref28.Upper.body2
  simp only [st]
  rw [if_pos (by omega), need_eq ⟨by omega, by omega⟩, need_eq ⟨by omega, by show (k : Int) < 26; omega⟩, bix_get' hi, l1, i64w (n := (k : Int) + 1) (by omega) (by omega), l2]
  by_cases h : (s[i].toNat : Int) = 97 + (k : Int)
  ·rw [if_pos h, need_eq ⟨by omega, by omega, by show (k : Int) + 1 ≤ 26; omega⟩]
   simp only [Option.bind_some]
   rw [if_pos (by omega), show 65 + k = s[i].toNat - 32 by omega]
   rfl
  ·rw [if_neg h]
   simp only [Option.bind_some]
   have e : (97 ≤ s[i].toNat ∧ s[i].toNat < 97 + (k + 1)) ↔ (97 ≤ s[i].toNat ∧ s[i].toNat < 97 + k) := by omega
   simp only [e]
   rfl
 ·unfold mewsref28.Upper.body2
  simp only [st]
  rw [if_neg (by omega)]
  unfold upC
  have e : (97 ≤ s[i].toNat ∧ s[i].toNat < 97 + 26) ↔ (97 ≤ s[i].toNat ∧ s[i].toNat ≤ 122) := by omega
  simp only [e]

theorem rUpper_eq (s : List UInt8) (hs : s.length ≤ 1000000000) : mewsref28.Upper s = some (s.map upC) := by
 unfold mewsref28.Upper
 have hloop : mewsref28.Upper.loop0 s ⟨[], 0⟩ = some (s.map upC) := by
  unfold mewsref28.Upper.loop0
  refine whileO_knownE _ (fun i => (⟨(s.take i).map upC, (i : Int)⟩ : mewsref28.Upper.S0)) s.length (fun i hi => ?_) ?_ (by simp)
  ·unfold mewsref28.Upper.body0
   simp only
   rw [if_pos (by omega), i64w (n := (i : Int) + 1) (by omega) (by omega), need_eq ⟨by omega, by omega, by omega⟩, sub_one hi, rUpper2_eq s hs _ i hi]
   simp only [Option.bind_some]
   rw [need_eq (by simp; omega), List.take_add_one, List.getElem?_eq_getElem hi]
   simp only [Option.toList_some, List.map_append, List.map_cons, List.map_nil]
   rfl
  ·unfold mewsref28.Upper.body0
   simp only
   rw [if_neg (by omega), List.take_length]
 rw [hloop]
 rfl

end Go.Pu
