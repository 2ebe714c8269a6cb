/- The pure law UnitBursts. -/
import Derived.Test.YtdgbjndkccjijaaUBPuUnit6
import Derived.Test.YtdgbjndkccjijaaUBPuCrc2
set_option maxRecDepth 100000
namespace Go.Pu
open Go.Lift

theorem u8_xor (a b : Nat) (ha : a < 256) (hb : b < 256) : Go.bits .xor .u8 (a : Int) (b : Int) = ((a ^^^ b : Nat) : Int) := by
 have hx : a ^^^ b < 2 ^ 8 := Nat.xor_lt_two_pow (by omega) (by omega)
 have h1 : (BitVec.ofInt 8 (a : Int)).toNat = a := by
  rw [BitVec.ofInt_natCast, BitVec.toNat_ofNat]; exact Nat.mod_eq_of_lt (by omega)
 have h2 : (BitVec.ofInt 8 (b : Int)).toNat = b := by
  rw [BitVec.ofInt_natCast, BitVec.toNat_ofNat]; exact Nat.mod_eq_of_lt (by omega)
 show IntKind.u8.wrap ((BitVec.ofInt 8 (a : Int) ^^^ BitVec.ofInt 8 (b : Int)).toNat : Int) = _
 rw [BitVec.toNat_xor, h1, h2, u8w (by omega) (by omega)]

theorem mod_bit (m i : Nat) : m % 2 ^ (i + 1) = if (m / 2 ^ i) % 2 = 1 then (m % 2 ^ i) ^^^ 2 ^ i else m % 2 ^ i := by
 have h1 : m % 2 ^ (i + 1) = m % 2 ^ i + 2 ^ i * (m / 2 ^ i % 2) := by rw [Nat.pow_succ, Nat.mod_mul]
 rw [h1]
 have hlt : m % 2 ^ i < 2 ^ i := Nat.mod_lt _ (Nat.two_pow_pos i)
 rcases Nat.mod_two_eq_zero_or_one (m / 2 ^ i) with h | h
 ·rw [h, if_neg (by omega)]; simp
 ·rw [h, if_pos rfl, Nat.mul_one]
  apply Nat.eq_of_testBit_eq
  intro j
  rw [Nat.testBit_xor, Nat.add_comm, Nat.testBit_two_pow]
  rcases Nat.lt_trichotomy j i with hj | hj | hj
  ·rw [Nat.testBit_two_pow_add_gt hj, decide_eq_false (show ¬ i = j by omega), Bool.xor_false]
  ·subst hj
   rw [Nat.testBit_two_pow_add_eq, Nat.testBit_lt_two_pow hlt]; simp
  ·have e1 : (m % 2 ^ i).testBit j = false := Nat.testBit_lt_two_pow (Nat.lt_of_lt_of_le hlt (Nat.pow_le_pow_right (by omega) (by omega)))
   have e2 : (2 ^ i + m % 2 ^ i).testBit j = false := Nat.testBit_lt_two_pow (by
    have := Nat.pow_le_pow_right (n := 2) (by omega) (show i + 1 ≤ j by omega)
    rw [Nat.pow_succ] at this; omega)
   rw [e1, e2]; simp; omega

theorem Bursts_loop (s : List UInt8) (m k0 : Nat) (hm : m < 4294967296) (hl : 9 ≤ s.length ∧ s.length ≤ 100000) (hk : k0 + 71 < 8 * s.length) :
  ∃ v, mewslaw15.UnitBursts.loop0 (m : Int) (k0 : Int) ⟨0, s⟩ = some v ∧ v.length = s.length ∧ v.take 5 = s.take 5 ∧ valN v = valN s ^^^ (m <<< (40 + k0)) := by
 have : ∃ r, mewslaw15.UnitBursts.loop0 (m : Int) (k0 : Int) ⟨0, s⟩ = some r ∧ (r.length = s.length ∧ r.take 5 = s.take 5 ∧ valN r = valN s ^^^ (m <<< (40 + k0))) := by
  unfold mewslaw15.UnitBursts.loop0
  refine whileO_dec (fun x => ∃ i : Nat, x.t47 = (i : Int) ∧ i ≤ 32 ∧ x.v.length = s.length ∧ x.v.take 5 = s.take 5 ∧ valN x.v = valN s ^^^ ((m % 2 ^ i) <<< (40 + k0))) (fun x => 32 - x.t47.toNat) _ (fun x hx => ?_) _ ⟨0, rfl, by omega, rfl, rfl, by simp [Nat.mod_one]⟩
  obtain ⟨i, e, hi, h1, h2, h3⟩ := hx
  obtain ⟨t, v⟩ := x
  simp only at e h1 h2 h3
  subst e
  unfold mewslaw15.UnitBursts.body0
  simp only []
  by_cases hc : i < 32
  ·rw [if_pos (by omega), need_eq (by omega)]
   have hand : Go.bits .and .u32 ((m : Int) / 2 ^ min (Int.toNat (i : Int)) (IntKind.bits .u32)) 1 = ((m / 2 ^ i % 2 : Nat) : Int) := by
    have e1 : min (Int.toNat (i : Int)) (IntKind.bits .u32) = i := by
     rw [Int.toNat_natCast]; show min i 32 = i; omega
    have e2 : (m : Int) / 2 ^ i = ((m / 2 ^ i : Nat) : Int) := by rw [Int.natCast_ediv, Int.natCast_pow]; rfl
    rw [e1, e2]
    have := u32_and (m / 2 ^ i) 1 (Nat.lt_of_le_of_lt (Nat.div_le_self _ _) hm) (by omega)
    rw [Nat.and_one_is_mod] at this
    exact this
   rw [hand, i64w (n := (k0 : Int)) (by omega) (by omega), i64w (n := 40 + (k0 : Int)) (by omega) (by omega), i64w (n := 40 + (k0 : Int) + (i : Int)) (by omega) (by omega), i64w (n := (i : Int) + 1) (by omega) (by omega)]
   have ek : (40 + (k0 : Int) + (i : Int)) = ((40 + k0 + i : Nat) : Int) := by omega
   have hdv : (((40 + k0 + i : Nat) : Int)).tdiv 8 = (((40 + k0 + i) / 8 : Nat) : Int) := rfl
   have hmd : (((40 + k0 + i : Nat) : Int)).tmod 8 = (((40 + k0 + i) % 8 : Nat) : Int) := rfl
   rw [ek, hdv, hmd, i64w (n := (((40 + k0 + i) / 8 : Nat) : Int)) (by omega) (by omega)]
   by_cases hb : m / 2 ^ i % 2 = 1
   ·have hj : (40 + k0 + i) / 8 < v.length := by omega
    have hr8 : (40 + k0 + i) % 8 < 8 := Nat.mod_lt _ (by omega)
    have hp : 2 ^ ((40 + k0 + i) % 8) < 256 := Nat.pow_lt_pow_right (n := 8) (by omega) hr8
    have hx : IntKind.wrap .u8 (1 * 2 ^ min (Int.toNat (((40 + k0 + i) % 8 : Nat) : Int)) (IntKind.bits .u8)) = ((2 ^ ((40 + k0 + i) % 8) : Nat) : Int) := by
     have e1 : min (Int.toNat (((40 + k0 + i) % 8 : Nat) : Int)) (IntKind.bits .u8) = (40 + k0 + i) % 8 := by
      rw [Int.toNat_natCast]; show min _ 8 = _; omega
     have e2 : (1 : Int) * 2 ^ ((40 + k0 + i) % 8) = ((2 ^ ((40 + k0 + i) % 8) : Nat) : Int) := by rw [Int.natCast_pow, Int.one_mul]; rfl
     rw [e1, e2]
     exact u8w (Int.natCast_nonneg _) (by exact_mod_cast hp)
    rw [if_pos (show ((m / 2 ^ i % 2 : Nat) : Int) = 1 by omega), need_eq ⟨by omega, by omega⟩, need_eq ⟨by omega, by omega⟩, need_eq (by omega), hx]
    unfold letO
    have hlt := v[(40 + k0 + i) / 8].toNat_lt
    have hxl : v[(40 + k0 + i) / 8].toNat ^^^ 2 ^ ((40 + k0 + i) % 8) < 2 ^ 8 := Nat.xor_lt_two_pow (by omega) hp
    simp only []
    rw [need_eq ⟨by omega, by omega⟩, need_eq ⟨by omega, by omega⟩, ix_get hj, u8_xor _ _ (by omega) hp, need_eq ⟨Int.natCast_nonneg _, by exact_mod_cast hxl⟩, Option.bind_some]
    have hu8 : u8 ((v[(40 + k0 + i) / 8].toNat ^^^ 2 ^ ((40 + k0 + i) % 8) : Nat) : Int) = UInt8.ofNat (v[(40 + k0 + i) / 8].toNat ^^^ 2 ^ ((40 + k0 + i) % 8)) := by unfold u8; rw [Int.toNat_natCast]
    have hset : upd v (((40 + k0 + i) / 8 : Nat) : Int) (u8 ((v[(40 + k0 + i) / 8].toNat ^^^ 2 ^ ((40 + k0 + i) % 8) : Nat) : Int)) = v.set ((40 + k0 + i) / 8) (UInt8.ofNat (v[(40 + k0 + i) / 8].toNat ^^^ 2 ^ ((40 + k0 + i) % 8))) := by
     rw [hu8]; rfl
    rw [hset]
    refine .inl ⟨_, rfl, ⟨i + 1, by show (i : Int) + 1 = _; omega, by omega, by rw [List.length_set]; exact h1, ?_, ?_⟩, ?_⟩
    ·rw [List.take_set_of_le (by omega)]; exact h2
    ·show valN (v.set _ _) = _
     rw [valN_set _ hp v _ hj, h3, mod_bit, if_pos hb, Nat.shiftLeft_xor_distrib, Nat.xor_assoc]
     congr 2
     rw [Nat.shiftLeft_eq, Nat.shiftLeft_eq, ← Nat.pow_add, ← Nat.pow_add]
     congr 1
     omega
    ·show 32 - ((i : Int) + 1).toNat < 32 - (i : Int).toNat; omega
   ·rw [if_neg (show ¬ ((m / 2 ^ i % 2 : Nat) : Int) = 1 by omega), Option.bind_some]
    refine .inl ⟨_, rfl, ⟨i + 1, by show (i : Int) + 1 = _; omega, by omega, h1, h2, ?_⟩, ?_⟩
    ·show valN v = _
     rw [h3, mod_bit, if_neg hb]
    ·show 32 - ((i : Int) + 1).toNat < 32 - (i : Int).toNat; omega
  ·rw [if_neg (by omega)]
   obtain rfl : i = 32 := by omega
   rw [Nat.mod_eq_of_lt (by simpa using hm)] at h3
   exact .inr ⟨_, rfl, h1, h2, h3⟩
 obtain ⟨r, g1, g2, g3, g4⟩ := this
 exact ⟨r, g1, g2, g3, g4⟩

theorem UnitBursts_pure (u : api.Unit) (at_ mask : Int) (hu : FitsC u.Cmds) (hm : 0 ≤ mask ∧ mask < 4294967296) : mewslaw15.UnitBursts u at_ mask = some true := by
 unfold mewslaw15.UnitBursts
 obtain ⟨x, hf, hf2⟩ := Far_eq [u] (by simp) (by simp [hu])
 rw [hf, alive15, Option.bind_some]
 cases x with
 | true => rfl
 | false =>
  obtain ⟨f1, f2⟩ := hf2 rfl
  simp only [wtL] at f2
  rw [if_neg (show ¬ (false = true) by simp), Option.bind_some]
  by_cases hb : mask = 0
  ·rw [if_pos (decide_eq_true hb)]; rfl
  ·rw [if_neg (by rw [decide_eq_false hb]; simp), PutU_eq u (by omega), Option.bind_some]
   unfold putU
   cases hmm : mayM u.Cmds with
   | false => rfl
   | true =>
    obtain ⟨m, rfl⟩ := Int.eq_ofNat_of_zero_le hm.1
    have hpl := putL_len u.Cmds (by omega)
    have hlen := unitM_len u.Cmds
    have htp := take_put hmm (show (putL u.Cmds).length ≤ 4194304 by omega) []
    rw [List.append_nil] at htp
    rw [if_pos rfl, if_pos rfl]
    show need ((unitM u.Cmds).length ≤ 140737488355328) _ = _
    rw [need_eq (by omega), if_neg (show ¬ ((unitM u.Cmds).length : Int) < 9 by omega)]
    show need (¬ IntKind.wrap .u64 (IntKind.wrap .i64 (IntKind.wrap .i64 (8 * ((unitM u.Cmds).length : Int)) - 71)) = 0) _ = _
    have e8 : IntKind.wrap .u64 (IntKind.wrap .i64 (IntKind.wrap .i64 (8 * ((unitM u.Cmds).length : Int)) - 71)) = ((8 * (unitM u.Cmds).length - 71 : Nat) : Int) := by
     rw [i64w (n := 8 * ((unitM u.Cmds).length : Int)) (by omega) (by omega), i64w (by omega) (by omega), u64w (by omega) (by omega)]; omega
    obtain ⟨k, hk, _⟩ := u64_range at_
    rw [e8, need_eq (by omega), hk]
    have hmod : ((k : Nat) : Int).tmod ((8 * (unitM u.Cmds).length - 71 : Nat) : Int) = ((k % (8 * (unitM u.Cmds).length - 71) : Nat) : Int) := rfl
    have hlt : k % (8 * (unitM u.Cmds).length - 71) < 8 * (unitM u.Cmds).length - 71 := Nat.mod_lt _ (by omega)
    rw [hmod]
    unfold letO
    obtain ⟨v, g1, g2, g3, g4⟩ := Bursts_loop (unitM u.Cmds) m (k % (8 * (unitM u.Cmds).length - 71)) (by omega) ⟨by omega, by omega⟩ (by omega)
    show (mewslaw15.UnitBursts.loop0 (m : Int) ((k % (8 * (unitM u.Cmds).length - 71) : Nat) : Int) ⟨0, unitM u.Cmds⟩).bind _ = _
    rw [g1, Option.bind_some, Take_eq v (by omega), Option.bind_some]
    have hseal : sealN ((unitM u.Cmds).take ((unitM u.Cmds).length - 4)) = unitM u.Cmds := by
     have hh5 : (headN (putL u.Cmds).length ++ putL u.Cmds).length = (putL u.Cmds).length + 5 := by simp [headN, le4]
     have e1 : (unitM u.Cmds).take ((unitM u.Cmds).length - 4) = headN (putL u.Cmds).length ++ putL u.Cmds := by
      rw [show (unitM u.Cmds).length - 4 = (headN (putL u.Cmds).length ++ putL u.Cmds).length by omega]
      unfold unitM sealN
      rw [List.take_left]
     rw [e1]; rfl
    have hno := burst (s := unitM u.Cmds) (s' := v) (m := m) (k := 40 + k % (8 * (unitM u.Cmds).length - 71)) (by omega) g2 hseal (by omega) (by omega) (by omega) g4
    have h5v : 5 ≤ v.length := by omega
    have hhd : hdN v = (putL u.Cmds).length := by
     rw [← hdN_take v 5 (Nat.le_refl _), g3, hdN_take _ 5 (Nat.le_refl _), unitM_eq, List.append_assoc]
     exact hdN_of _ (by omega) _
    have h85 : v.getD 0 0 = 85 := by
     have e1 : v.getD 0 0 = (v.take 5).getD 0 0 := by simp [List.getD, List.getElem?_take]
     have e2 : (unitM u.Cmds).getD 0 0 = ((unitM u.Cmds).take 5).getD 0 0 := by simp [List.getD, List.getElem?_take]
     rw [e1, g3, ← e2, unitM_eq]; rfl
    have htk : takeM v = ({ Cmds := [] }, 0, 14) := by
     rw [tk_rest h85 (by omega), hhd, if_neg (by omega), if_neg (by omega)]
     refine if_pos ?_
     have e1 : v.take ((putL u.Cmds).length + 9) = v := List.take_of_length_le (by omega)
     have e2 : (putL u.Cmds).length + 5 = v.length - 4 := by omega
     rw [e1, e2]
     exact hno
    rw [htk]
    rfl

end Go.Pu

namespace Go.Pu.Pure
open Go.Lift Go.Pu
theorem UnitBursts {a0 : api.Unit} {a1 a2 : Int} (h0 : api.Unit.wf a0) (h1 : (Lit.int .i64 a1).wf = true) (h2 : (Lit.int .u32 a2).wf = true) : mewslaw15.UnitBursts a0 a1 a2 = some true :=
 UnitBursts_pure a0 a1 a2 (fits_wf h0) (by
  have : 0 ≤ a2 ∧ a2 ≤ 4294967295 := by simpa [Lit.wf, IntKind.min, IntKind.max, IntKind.signed, IntKind.bits] using h2
  omega)
end Go.Pu.Pure
