/- Units: how great they are, their bytes. -/
import Derived.Test.YtdgbjndkccjijaaUBPuUnit1
set_option maxRecDepth 100000
namespace Go.Pu
open Go.Lift

/-! ### How great -/
def wtU : Cmds → Nat
 | [] => 0
 | c :: l => 1 + lenS c + c.length + wtU l
theorem wtU_append (a b : Cmds) : wtU (a ++ b) = wtU a + wtU b := by
 induction a with
 | nil => simp [wtU]
 | cons x a ih => simp only [List.cons_append, wtU, ih]; omega
theorem wtU_at : ∀ (l : Cmds) (j : Nat) (hj : j < l.length), 1 + lenS l[j] + l[j].length ≤ wtU l
 | x :: l, 0, _ => by simp only [wtU, List.getElem_cons_zero]; omega
 | x :: l, j + 1, hj => by have := wtU_at l j (by simpa using hj); simp only [wtU, List.getElem_cons_succ]; omega
theorem wtU_take (l : Cmds) (j : Nat) : wtU (l.take j) ≤ wtU l := by
 have := wtU_append (l.take j) (l.drop j)
 rw [List.take_append_drop] at this; omega
theorem wtU_len : ∀ (l : Cmds), l.length ≤ wtU l
 | [] => Nat.le_refl _
 | x :: l => by have := wtU_len l; simp only [wtU, List.length_cons]; omega

/-- What fits in a machine. -/
def FitsC (l : Cmds) : Prop := l.length ≤ 1000000000000000 ∧ ∀ c ∈ l, c.length ≤ 1000000000000000 ∧ ∀ s ∈ c, s.length ≤ 1000000000000000

theorem Weight_loop2' (u : api.Unit) (i nn n0 : Nat) (hi : i < u.Cmds.length) (hf : FitsC u.Cmds) (hn : n0 ≤ 2000000000000000) :
  ∃ r, mewsref15.Weight.loop2 ⟨(nn : Int), (i : Int)⟩ u ⟨(n0 : Int), 0⟩ = some r ∧ ∃ m : Nat, r = (m : Int) ∧ m ≤ n0 + 1000000000200000 ∧ (m = n0 + lenS u.Cmds[i] + u.Cmds[i].length ∨ 100000 ≤ m) := by
 obtain ⟨hc1, hc2⟩ := hf.2 _ (List.getElem_mem hi)
 have hL := hf.1
 unfold mewsref15.Weight.loop2
 refine whileO_dec (fun s => ∃ k m : Nat, s = ⟨(m : Int), (k : Int)⟩ ∧ k ≤ u.Cmds[i].length ∧ m = n0 + lenS (u.Cmds[i].take k) + k ∧ m ≤ n0 + 1000000000200000) (fun s => u.Cmds[i].length - s.k.toNat) _ (fun s hs => ?_) _ ⟨0, n0, rfl, Nat.zero_le _, by simp [lenS], by omega⟩
 obtain ⟨k, m, rfl, hk, hm, hb⟩ := hs
 unfold mewsref15.Weight.body2
 simp only
 rw [need_eq ⟨by omega, by omega⟩, ix_get hi]
 by_cases hkc : k < u.Cmds[i].length
 ·rw [if_pos (by omega)]
  simp only [Option.bind_some]
  by_cases hlt : m < 100000
  ·have hsl := hc2 _ (List.getElem_mem hkc)
   rw [if_pos (decide_eq_true (by omega)), need_eq ⟨by omega, by omega⟩, need_eq ⟨by omega, by omega⟩, ix_get hkc, i64w (n := 1 + _) (by omega) (by omega), i64w (by omega) (by omega), i64w (by omega) (by omega)]
   have hlen : lenS (u.Cmds[i].take (k + 1)) = lenS (u.Cmds[i].take k) + u.Cmds[i][k].length := by
    rw [List.take_add_one, List.getElem?_eq_getElem hkc, lenS_append]; simp [lenS]
   refine .inl ⟨_, rfl, ⟨k + 1, m + (1 + u.Cmds[i][k].length), ?_, by omega, by omega, by omega⟩, ?_⟩
   ·congr 1 <;> omega
   ·show u.Cmds[i].length - ((k : Int) + 1).toNat < u.Cmds[i].length - (k : Int).toNat; omega
  ·rw [if_neg (by rw [decide_eq_false (by omega)]; simp)]
   exact .inr ⟨_, rfl, m, rfl, hb, .inr (by omega)⟩
 ·rw [if_neg (by omega)]
  have : k = u.Cmds[i].length := by omega
  subst this
  rw [List.take_length] at hm
  exact .inr ⟨_, rfl, m, rfl, hb, .inl hm⟩

theorem Weight_eq (u : api.Unit) (hf : FitsC u.Cmds) : ∃ r, mewsref15.Weight u = some r ∧ ∃ m : Nat, r = (m : Int) ∧ m ≤ 2000000000000000 ∧ (m = wtU u.Cmds ∨ 100000 ≤ m) := by
 have hL := hf.1
 unfold mewsref15.Weight
 have : ∃ r, mewsref15.Weight.loop0 u ⟨0, 0⟩ = some r ∧ ∃ m : Nat, r = (m : Int) ∧ m ≤ 2000000000000000 ∧ (m = wtU u.Cmds ∨ 100000 ≤ m) := by
  unfold mewsref15.Weight.loop0
  refine whileO_dec (fun s => ∃ i m : Nat, s = ⟨(m : Int), (i : Int)⟩ ∧ i ≤ u.Cmds.length ∧ (m = wtU (u.Cmds.take i) ∨ 100000 ≤ m) ∧ m ≤ 2000000000000000) (fun s => u.Cmds.length - s.i.toNat) _ (fun s hs => ?_) _ ⟨0, 0, rfl, Nat.zero_le _, .inl rfl, by omega⟩
  obtain ⟨i, m, rfl, hi, hm, hb⟩ := hs
  unfold mewsref15.Weight.body0 letO
  simp only
  by_cases hic : i < u.Cmds.length
  ·by_cases hlt : m < 100000
   ·rw [if_pos (show (if (i : Int) < (u.Cmds.length : Int) then decide ((m : Int) < 100000) else false) = true by rw [if_pos (by omega)]; exact decide_eq_true (by omega)), i64w (by omega) (by omega)]
    obtain ⟨r, h1, m', rfl, h3, h4⟩ := Weight_loop2' u i m (m + 1) hic hf (by omega)
    rw [show ((m : Int) + 1) = ((m + 1 : Nat) : Int) by omega, h1]
    simp only [Option.bind_some]
    rw [i64w (by omega) (by omega)]
    refine .inl ⟨_, rfl, ⟨i + 1, m', ?_, by omega, ?_, by omega⟩, ?_⟩
    ·congr 1
    ·rcases h4 with h4 | h4
     ·left
      rw [List.take_add_one, List.getElem?_eq_getElem hic, wtU_append]
      rcases hm with hm | hm
      ·simp only [Option.toList_some, wtU]; omega
      ·omega
     ·exact .inr h4
    ·show u.Cmds.length - ((i : Int) + 1).toNat < u.Cmds.length - (i : Int).toNat; omega
   ·rw [if_neg (show ¬ (if (i : Int) < (u.Cmds.length : Int) then decide ((m : Int) < 100000) else false) = true by rw [if_pos (by omega), decide_eq_false (by omega)]; simp)]
    exact .inr ⟨_, rfl, m, rfl, hb, .inr (by omega)⟩
  ·rw [if_neg (show ¬ (if (i : Int) < (u.Cmds.length : Int) then decide ((m : Int) < 100000) else false) = true by rw [if_neg (by omega)]; simp)]
   have : i = u.Cmds.length := by omega
   subst this
   rw [List.take_length] at hm
   exact .inr ⟨_, rfl, m, rfl, hb, hm⟩
 obtain ⟨r, h1, h2⟩ := this
 exact ⟨r, by rw [h1]; rfl, h2⟩

/-- Units that are not far. -/
def wtL : List api.Unit → Nat
 | [] => 0
 | u :: l => wtU u.Cmds + wtL l
theorem wtL_append (a b : List api.Unit) : wtL (a ++ b) = wtL a + wtL b := by
 induction a with
 | nil => simp [wtL]
 | cons x a ih => simp only [List.cons_append, wtL, ih]; omega

theorem Far_eq (l : List api.Unit) (hl : l.length ≤ 1000000000000000) (hf : ∀ u ∈ l, FitsC u.Cmds) : ∃ b, mewslaw15.Far l = some b ∧ (b = false → l.length ≤ 100 ∧ wtL l ≤ 4000) := by
 unfold mewslaw15.Far
 have : ∃ r, mewslaw15.Far.loop0 l ⟨0, 0⟩ = some r ∧ (r = .inr true ∨ (r = .inl () ∧ wtL l ≤ 4000)) := by
  unfold mewslaw15.Far.loop0
  refine whileO_dec (fun s => ∃ i m : Nat, s = ⟨(m : Int), (i : Int)⟩ ∧ i ≤ l.length ∧ m = wtL (l.take i) ∧ m ≤ 4000) (fun s => l.length - s.t8.toNat) _ (fun s hs => ?_) _ ⟨0, 0, rfl, Nat.zero_le _, rfl, by omega⟩
  obtain ⟨i, m, rfl, hi, hm, hb⟩ := hs
  unfold mewslaw15.Far.body0
  simp only
  by_cases hic : i < l.length
  ·obtain ⟨r, h1, m', rfl, h3, h4⟩ := Weight_eq l[i] (hf _ (List.getElem_mem hic))
   rw [if_pos (by omega), need_eq ⟨by omega, by omega⟩, ix_get hic, h1]
   simp only [Option.bind_some]
   rw [i64w (by omega) (by omega)]
   by_cases h5 : 4000 < m + m'
   ·rw [if_pos (by omega)]
    exact .inr ⟨_, rfl, .inl rfl⟩
   ·rw [if_neg (by omega), i64w (by omega) (by omega)]
    refine .inl ⟨_, rfl, ⟨i + 1, m + m', ?_, by omega, ?_, by omega⟩, ?_⟩
    ·congr 1
    ·rw [List.take_add_one, List.getElem?_eq_getElem hic, wtL_append]
     simp only [Option.toList_some, wtL]
     rcases h4 with h4 | h4 <;> omega
    ·show l.length - ((i : Int) + 1).toNat < l.length - (i : Int).toNat; omega
  ·rw [if_neg (by omega)]
   have : i = l.length := by omega
   subst this
   rw [List.take_length] at hm
   exact .inr ⟨_, rfl, .inr ⟨rfl, by omega⟩⟩
 obtain ⟨r, h1, h2 | ⟨h2, h3⟩⟩ := this
 ·exact ⟨true, by rw [h1, h2]; rfl, fun h => by cases h⟩
 ·refine ⟨decide (100 < (l.length : Int)), by rw [h1, h2]; rfl, fun h => ⟨?_, h3⟩⟩
  have := of_decide_eq_false h
  omega

/-! ### The bytes -/
theorem putL_len : ∀ (l : Cmds), wtU l ≤ 300000 → (putL l).length ≤ 12 * wtU l
 | [], _ => by simp [putL]
 | c :: l, h => by
  simp only [wtU] at h
  have h1 := putM_lenB c (by omega) (by omega)
  have h2 := putL_len l (by omega)
  simp only [putL, wtU, List.length_append]; omega

theorem load_eq (u : api.Unit) (h : wtU u.Cmds ≤ 300000) : unit.load u = some (putL u.Cmds, true) := by
 unfold unit.load
 have hlen := wtU_len u.Cmds
 have hloop : unit.load.loop0 u ⟨0, ([] : List UInt8)⟩ = some (.inl (putL u.Cmds)) := by
  unfold unit.load.loop0
  refine whileO_knownE _ (fun i => (⟨(i : Int), putL (u.Cmds.take i)⟩ : unit.load.S0)) u.Cmds.length (fun i hi => ?_) ?_ rfl
  ·have hw := wtU_at u.Cmds i hi
   have hl2 : unit.load.loop2 u ⟨(i : Int), putL (u.Cmds.take i)⟩ ⟨0, 0⟩ = some (.inl ()) := by
    unfold unit.load.loop2
    refine whileO_knownE _ (fun k => (⟨(lenS (u.Cmds[i].take k) : Int), (k : Int)⟩ : unit.load.S2)) u.Cmds[i].length (fun k hk => ?_) ?_ rfl
    ·have h1 : lenS (u.Cmds[i].take (k + 1)) = lenS (u.Cmds[i].take k) + u.Cmds[i][k].length := by
      rw [List.take_add_one, List.getElem?_eq_getElem hk, lenS_append]; simp [lenS]
     have h2 := lenS_take u.Cmds[i] (k + 1)
     unfold unit.load.body2
     simp only
     rw [ix_get hi, if_pos (by omega), need_eq ⟨by omega, by omega⟩, ix_get hk, i64w (by omega) (by omega), if_neg (by omega), i64w (by omega) (by omega)]
     rw [h1]
     congr 3
    ·unfold unit.load.body2
     simp only
     rw [ix_get hi, if_neg (by omega)]
   have htk := wtU_take u.Cmds (i + 1)
   have hpl := putL_len (u.Cmds.take (i + 1)) (by omega)
   have hsn : putL (u.Cmds.take (i + 1)) = putL (u.Cmds.take i) ++ putM u.Cmds[i] := by
    rw [List.take_add_one, List.getElem?_eq_getElem hi]
    exact putL_snoc _ _
   rw [hsn, List.length_append] at hpl
   unfold unit.load.body0
   simp only
   rw [if_pos (by omega), need_eq ⟨by omega, by omega⟩, hl2, ix_get hi]
   simp only [Option.bind_some, onSum]
   rw [Put_eq _ (by omega) (by omega)]
   simp only [Option.bind_some]
   rw [need_eq (by omega), if_neg (by simp; omega), i64w (by omega) (by omega), hsn]
   rfl
  ·unfold unit.load.body0
   simp only
   rw [if_neg (by omega), List.take_length]
 rw [hloop]
 rfl

theorem rLoad_eq (u : api.Unit) (h : wtU u.Cmds ≤ 300000) : mewsref15.load u = some (putL u.Cmds) := by
 unfold mewsref15.load
 have hlen := wtU_len u.Cmds
 have hloop : mewsref15.load.loop0 u ⟨([] : List UInt8), 0⟩ = some (putL u.Cmds) := by
  unfold mewsref15.load.loop0
  refine whileO_knownE _ (fun i => (⟨putL (u.Cmds.take i), (i : Int)⟩ : mewsref15.load.S0)) u.Cmds.length (fun i hi => ?_) ?_ rfl
  ·have hw := wtU_at u.Cmds i hi
   have htk := wtU_take u.Cmds (i + 1)
   have hpl := putL_len (u.Cmds.take (i + 1)) (by omega)
   have hsn : putL (u.Cmds.take (i + 1)) = putL (u.Cmds.take i) ++ putM u.Cmds[i] := by
    rw [List.take_add_one, List.getElem?_eq_getElem hi]
    exact putL_snoc _ _
   rw [hsn, List.length_append] at hpl
   unfold mewsref15.load.body0 letO
   simp only
   rw [if_pos (show (if (i : Int) < (u.Cmds.length : Int) then decide (((putL (u.Cmds.take i)).length : Int) ≤ 4194304) else false) = true by rw [if_pos (by omega)]; exact decide_eq_true (by omega)), need_eq ⟨by omega, by omega⟩, ix_get hi, rPutB_eq _ (by omega) (by omega)]
   simp only [Option.bind_some]
   rw [need_eq (by omega), i64w (by omega) (by omega), hsn]
   rfl
  ·unfold mewsref15.load.body0 letO
   simp only
   rw [if_neg (show ¬ (if ((u.Cmds.length : Nat) : Int) < (u.Cmds.length : Int) then decide (((putL (u.Cmds.take u.Cmds.length)).length : Int) ≤ 4194304) else false) = true by rw [if_neg (by omega)]; simp), List.take_length]
 rw [hloop]
 rfl

def headN (n : Nat) : List UInt8 := 85 :: le4 n
def unitM (l : Cmds) : List UInt8 := sealN (headN (putL l).length ++ putL l)
def putU (u : api.Unit) : List UInt8 × Int := if mayM u.Cmds = true then (unitM u.Cmds, 0) else ([], 1)

theorem four_eq (n : Nat) (h : n ≤ 4194304) : unit.four (IntKind.wrap .u32 (n : Int)) = some (le4 n) := by
 rw [u32w (by omega) (by omega)]
 unfold unit.four
 have e8 : ((n : Nat) : Int) / 2 ^ min (Int.toNat 8) (IntKind.bits .u32) = ((n / 256 : Nat) : Int) := by
  have : ((2 : Int) ^ min (Int.toNat 8) (IntKind.bits .u32)) = 256 := rfl
  rw [this]; omega
 have e16 : ((n : Nat) : Int) / 2 ^ min (Int.toNat 16) (IntKind.bits .u32) = ((n / 65536 : Nat) : Int) := by
  have : ((2 : Int) ^ min (Int.toNat 16) (IntKind.bits .u32)) = 65536 := rfl
  rw [this]; omega
 have e24 : ((n : Nat) : Int) / 2 ^ min (Int.toNat 24) (IntKind.bits .u32) = ((n / 16777216 : Nat) : Int) := by
  have : ((2 : Int) ^ min (Int.toNat 24) (IntKind.bits .u32)) = 16777216 := rfl
  rw [this]; omega
 rw [e8, e16, e24, need_eq (u8_wrap_ok _), need_eq (u8_wrap_ok _), need_eq (u8_wrap_ok _), need_eq (u8_wrap_ok _), u8_wrap, u8_wrap, u8_wrap, u8_wrap]
 rfl

theorem PutU_eq (u : api.Unit) (h : wtU u.Cmds ≤ 300000) : unit.Put u = some (putU u) := by
 unfold unit.Put putU
 rw [may_eq]
 simp only [Option.bind_some]
 cases hm : mayM u.Cmds with
 | false => rfl
 | true =>
  have hpl := putL_len _ h
  rw [if_neg (by simp), load_eq u h]
  simp only [Option.bind_some]
  rw [if_neg (by simp), four_eq _ (by omega)]
  simp only [Option.bind_some]
  rw [need_eq (by simp [le4]), need_eq (by simp [le4]; omega), cSeal_eq _ (by simp [le4]; omega)]
  rfl

theorem rPutU_eq (u : api.Unit) (h : wtU u.Cmds ≤ 300000) : mewsref15.Put u = some (putU u) := by
 unfold mewsref15.Put putU
 rw [rMay_eq]
 simp only [Option.bind_some]
 cases hm : mayM u.Cmds with
 | false => rfl
 | true =>
  have hpl := putL_len _ h
  rw [if_neg (by simp), rLoad_eq u h]
  simp only [Option.bind_some]
  have e1 : IntKind.wrap .i64 (((putL u.Cmds).length : Int).tdiv 256) = (((putL u.Cmds).length / 256 : Nat) : Int) := i64w (by show _ ≤ (((putL u.Cmds).length / 256 : Nat) : Int); omega) (by show (((putL u.Cmds).length / 256 : Nat) : Int) < _; omega)
  have e2 : IntKind.wrap .i64 (((putL u.Cmds).length : Int).tdiv 65536) = (((putL u.Cmds).length / 65536 : Nat) : Int) := i64w (by show _ ≤ (((putL u.Cmds).length / 65536 : Nat) : Int); omega) (by show (((putL u.Cmds).length / 65536 : Nat) : Int) < _; omega)
  have e3 : u8 0 = UInt8.ofNat ((putL u.Cmds).length / 16777216) := by rw [show (putL u.Cmds).length / 16777216 = 0 by omega]; rfl
  rw [if_neg (by omega), need_eq (u8_wrap_ok _), need_eq (u8_wrap_ok _), need_eq (u8_wrap_ok _), need_eq ⟨by omega, by omega⟩, e1, e2, u8_wrap, u8_wrap, u8_wrap, e3, need_eq (by simp)]
  show need ((headN (putL u.Cmds).length).length + (putL u.Cmds).length ≤ 9223372036854775807) ((mewsref14.Seal (headN (putL u.Cmds).length ++ putL u.Cmds)).bind fun r24 => some (r24, 0)) = _
  rw [need_eq (by simp [headN, le4]; omega), rSeal_eq _ (by simp [headN, le4]; omega)]
  rfl

end Go.Pu
