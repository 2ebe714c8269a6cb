import Derived.Test.YtngliepchpkiiaaDoorTAPuTab2
import Derived.Test.YtngliepchpkiiaaDoorTAPuStrL
import Derived.Test.YtngliepchpkiiaaDoorTAC
set_option maxHeartbeats 0
set_option maxRecDepth 100000
namespace Go.Pu
open Go.Lift

def namesS : List Str := [[65, 80, 80, 69, 78, 68],
 [65, 85, 84, 72],
 [66, 71, 82, 69, 87, 82, 73, 84, 69, 65, 79, 70],
 [66, 73, 84, 67, 79, 85, 78, 84],
 [66, 76, 77, 79, 86, 69],
 [66, 76, 80, 79, 80],
 [66, 82, 80, 79, 80],
 [67, 79, 80, 89],
 [68, 66, 83, 73, 90, 69],
 [68, 69, 67, 82],
 [68, 69, 67, 82, 66, 89],
 [68, 69, 76],
 [68, 73, 83, 67, 65, 82, 68],
 [69, 67, 72, 79],
 [69, 88, 69, 67],
 [69, 88, 73, 83, 84, 83],
 [69, 88, 80, 73, 82, 69],
 [69, 88, 80, 73, 82, 69, 65, 84],
 [69, 88, 80, 73, 82, 69, 84, 73, 77, 69],
 [70, 76, 85, 83, 72, 65, 76, 76],
 [71, 69, 84],
 [71, 69, 84, 66, 73, 84],
 [71, 69, 84, 68, 69, 76],
 [71, 69, 84, 69, 88],
 [71, 69, 84, 82, 65, 78, 71, 69],
 [71, 69, 84, 83, 69, 84],
 [72, 68, 69, 76],
 [72, 69, 88, 73, 83, 84, 83],
 [72, 71, 69, 84],
 [72, 71, 69, 84, 65, 76, 76],
 [72, 73, 78, 67, 82, 66, 89],
 [72, 75, 69, 89, 83],
 [72, 76, 69, 78],
 [72, 77, 71, 69, 84],
 [72, 77, 83, 69, 84],
 [72, 83, 67, 65, 78],
 [72, 83, 69, 84],
 [72, 83, 69, 84, 78, 88],
 [72, 83, 84, 82, 76, 69, 78],
 [72, 86, 65, 76, 83],
 [73, 78, 67, 82],
 [73, 78, 67, 82, 66, 89],
 [73, 78, 70, 79],
 [75, 69, 89, 83],
 [76, 73, 78, 68, 69, 88],
 [76, 73, 78, 83, 69, 82, 84],
 [76, 76, 69, 78],
 [76, 77, 79, 86, 69],
 [76, 80, 79, 80],
 [76, 80, 79, 83],
 [76, 80, 85, 83, 72],
 [76, 80, 85, 83, 72, 88],
 [76, 82, 65, 78, 71, 69],
 [76, 82, 69, 77],
 [76, 83, 69, 84],
 [76, 84, 82, 73, 77],
 [77, 71, 69, 84],
 [77, 83, 69, 84],
 [77, 83, 69, 84, 78, 88],
 [77, 85, 76, 84, 73],
 [80, 69, 82, 83, 73, 83, 84],
 [80, 69, 88, 80, 73, 82, 69],
 [80, 69, 88, 80, 73, 82, 69, 65, 84],
 [80, 69, 88, 80, 73, 82, 69, 84, 73, 77, 69],
 [80, 73, 78, 71],
 [80, 83, 69, 84, 69, 88],
 [80, 83, 85, 66, 83, 67, 82, 73, 66, 69],
 [80, 84, 84, 76],
 [80, 85, 66, 76, 73, 83, 72],
 [80, 85, 78, 83, 85, 66, 83, 67, 82, 73, 66, 69],
 [81, 85, 73, 84],
 [82, 69, 78, 65, 77, 69],
 [82, 69, 78, 65, 77, 69, 78, 88],
 [82, 80, 79, 80],
 [82, 80, 79, 80, 76, 80, 85, 83, 72],
 [82, 80, 85, 83, 72],
 [82, 80, 85, 83, 72, 88],
 [83, 65, 68, 68],
 [83, 67, 65, 78],
 [83, 67, 65, 82, 68],
 [83, 68, 73, 70, 70],
 [83, 68, 73, 70, 70, 83, 84, 79, 82, 69],
 [83, 69, 84],
 [83, 69, 84, 66, 73, 84],
 [83, 69, 84, 69, 88],
 [83, 69, 84, 78, 88],
 [83, 69, 84, 82, 65, 78, 71, 69],
 [83, 73, 78, 84, 69, 82],
 [83, 73, 78, 84, 69, 82, 67, 65, 82, 68],
 [83, 73, 78, 84, 69, 82, 83, 84, 79, 82, 69],
 [83, 73, 83, 77, 69, 77, 66, 69, 82],
 [83, 77, 69, 77, 66, 69, 82, 83],
 [83, 77, 73, 83, 77, 69, 77, 66, 69, 82],
 [83, 77, 79, 86, 69],
 [83, 80, 79, 80],
 [83, 82, 69, 77],
 [83, 83, 67, 65, 78],
 [83, 84, 82, 76, 69, 78],
 [83, 85, 66, 83, 67, 82, 73, 66, 69],
 [83, 85, 78, 73, 79, 78],
 [83, 85, 78, 73, 79, 78, 83, 84, 79, 82, 69],
 [84, 79, 85, 67, 72],
 [84, 84, 76],
 [84, 89, 80, 69],
 [85, 78, 76, 73, 78, 75],
 [85, 78, 83, 85, 66, 83, 67, 82, 73, 66, 69],
 [85, 78, 87, 65, 84, 67, 72],
 [87, 65, 84, 67, 72],
 [90, 65, 68, 68],
 [90, 67, 65, 82, 68],
 [90, 67, 79, 85, 78, 84],
 [90, 73, 78, 67, 82, 66, 89],
 [90, 73, 78, 84, 69, 82, 83, 84, 79, 82, 69],
 [90, 77, 83, 67, 79, 82, 69],
 [90, 80, 79, 80, 77, 65, 88],
 [90, 80, 79, 80, 77, 73, 78],
 [90, 82, 65, 78, 71, 69],
 [90, 82, 65, 78, 71, 69, 66, 89, 83, 67, 79, 82, 69],
 [90, 82, 65, 78, 75],
 [90, 82, 69, 77],
 [90, 82, 69, 77, 82, 65, 78, 71, 69, 66, 89, 82, 65, 78, 75],
 [90, 82, 69, 77, 82, 65, 78, 71, 69, 66, 89, 83, 67, 79, 82, 69],
 [90, 82, 69, 86, 82, 65, 78, 71, 69],
 [90, 82, 69, 86, 82, 65, 78, 71, 69, 66, 89, 83, 67, 79, 82, 69],
 [90, 82, 69, 86, 82, 65, 78, 75],
 [90, 83, 67, 65, 78],
 [90, 83, 67, 79, 82, 69],
 [90, 85, 78, 73, 79, 78, 83, 84, 79, 82, 69]]

def namesL : List Str := cmdsL.map fun c => c.Name

theorem names_len : namesL.length = namesS.length ∧ cmdsL.length = namesS.length ∧ 0 < namesS.length ∧ namesS.length < 1000 := by decide +kernel
theorem names_asc : Asc namesS := by unfold Asc; decide +kernel
theorem names_nodup : namesL.Nodup := by decide +kernel
theorem names_sub : ∀ y ∈ namesL, y ∈ namesS := by decide +kernel
theorem names_sup : ∀ y ∈ namesS, y ∈ namesL := by decide +kernel

def namesOf (k : Nat) : List Str := (cmdsOf k).map fun c => c.Name
theorem namesOf_cut : ((List.range 7).map namesOf).flatten = namesL := by decide +kernel
theorem namesOf_len : ∀ k : Nat, k ≤ 7 → (((List.range k).map namesOf).flatten).length ≤ 200 := by decide +kernel
theorem rws_names (k : Nat) (hk : k < 7) : (rws k).map (fun r => r.name) = namesOf k := names_cs k hk

theorem all2_eq (k : Nat) (hk : k < 7) (c : List Str) (hc : c.length ≤ 1000) : table.All.loop2 (rws k) ⟨0, c⟩ = some (c ++ namesOf k) := by
 have hlen := lens_cs k hk
 rw [← rws_names k hk]
 generalize rws k = R at hlen ⊢
 unfold table.All.loop2
 refine whileO_knownE _ (fun i => (⟨(i : Int), c ++ (R.take i).map (fun r => r.name)⟩ : table.All.S2)) R.length (fun i hi => ?_) ?_ (by simp)
 ·unfold table.All.body2
  simp only
  rw [if_pos (by omega), need_eq ⟨by omega, by omega⟩, ix_get hi, need_eq (by simp only [List.length_append, List.length_map, List.length_take, List.length_singleton]; omega), i64w (by omega) (by omega)]
  have e : (R.take (i + 1)).map (fun r => r.name) = (R.take i).map (fun r => r.name) ++ [R[i].name] := by
   rw [List.take_add_one, List.getElem?_eq_getElem hi, List.map_append]; rfl
  rw [e, List.append_assoc]
  rfl
 ·unfold table.All.body2
  rw [if_neg (by simp only; omega)]
  simp

theorem All_eq : table.All = some namesS := by
 unfold table.All
 have hl : table.All.loop0 ⟨1, []⟩ = some namesL := by
  unfold table.All.loop0
  refine whileO_knownE _ (fun k => (⟨(k : Int) + 1, ((List.range k).map namesOf).flatten⟩ : table.All.S0)) 7 (fun k hk => ?_) ?_ (by rfl)
  ·unfold table.All.body0
   simp only
   have hlen := namesOf_len k (by omega)
   rw [if_pos (by omega), rows_eq k hk, Option.bind_some, all2_eq k hk _ (by omega), Option.bind_some, i64w (by omega) (by omega), List.range_succ, List.map_append, List.flatten_append]
   simp
  ·unfold table.All.body0
   rw [if_neg (by simp only; omega)]
   show some (Sum.inr _) = _
   rw [namesOf_cut]
 rw [hl, Option.bind_some, Sort_eq names_nodup names_asc (fun y => ⟨names_sub y, names_sup y⟩) (by have := names_len; omega)]
 rfl

/-- A great letter made small. -/
def loC (c : UInt8) : UInt8 := if 65 ≤ c.toNat ∧ c.toNat ≤ 90 then UInt8.ofNat (c.toNat + 32) else c
theorem fin28 {p : UInt8 → Prop} (h : ∀ n : Fin 256, p (UInt8.ofNat n.val)) (c : UInt8) : p c := by
 have := h ⟨c.toNat, c.toNat_lt⟩
 simpa using this
theorem upC_loC (c : UInt8) (h : upC c = c) : upC (loC c) = c := by
 revert h; revert c; apply fin28; decide +kernel
theorem names_up : ∀ y ∈ namesS, ∀ c ∈ y, upC c = c := by decide +kernel
theorem names_short : ∀ y ∈ namesS, y.length ≤ 20 := by decide +kernel
theorem names_found : ∀ y ∈ namesS, (findC y).2 = true ∧ (findC y).1.Name = y ∧ 1 ≤ (findC y).1.Of ∧ (findC y).1.Of ≤ 7 ∧ ((findC y).1.Write = true ∨ (findC y).1.Grow = false) := by decide +kernel

theorem u64_rem (x : Int) (n : Nat) (hn : 0 < n) (hb : n < 1000000) : ∃ m : Nat, m < n ∧ IntKind.wrap .i64 ((IntKind.wrap .u64 x).tmod (IntKind.wrap .u64 (n : Int))) = (m : Int) := by
 rw [u64w (n := (n : Int)) (by omega) (by omega)]
 have h0 : 0 ≤ IntKind.wrap .u64 x := by
  simp [IntKind.wrap, IntKind.bits, IntKind.signed]; omega
 have h1 : (IntKind.wrap .u64 x).tmod (n : Int) = (IntKind.wrap .u64 x) % (n : Int) := Int.tmod_eq_emod_of_nonneg h0
 have h2 := Int.emod_nonneg (IntKind.wrap .u64 x) (show (n : Int) ≠ 0 by omega)
 have h3 := Int.emod_lt_of_pos (IntKind.wrap .u64 x) (show (0 : Int) < (n : Int) by omega)
 refine ⟨((IntKind.wrap .u64 x) % (n : Int)).toNat, by omega, ?_⟩
 rw [h1, i64w (by omega) (by omega)]
 omega

theorem low_byte (c : UInt8) : (if 65 ≤ (c.toNat : Int) then decide ((c.toNat : Int) ≤ 90) else false) = decide (65 ≤ c.toNat ∧ c.toNat ≤ 90) := by
 by_cases h : 65 ≤ (c.toNat : Int)
 ·rw [if_pos h]; apply decide_eq_decide.2; omega
 ·rw [if_neg h]; symm; rw [decide_eq_false_iff_not]; omega

theorem low_eq (turn : Int) (l : List Str) (at_ : Int) (nm : Str) (hn : nm.length ≤ 1000) (j k : Nat) (hj : j < l.length)
  (e1 : IntKind.wrap .i64 ((IntKind.wrap .u64 at_).tmod (IntKind.wrap .u64 (l.length : Int))) = (j : Int)) (e2 : l[j] = nm) (hk : k ≤ nm.length)
  (e3 : IntKind.wrap .i64 ((IntKind.wrap .u64 turn).tmod (IntKind.wrap .u64 (IntKind.wrap .i64 ((nm.length : Int) + 1)))) = (k : Int)) :
  mewslaw28.TableAll.loop2 turn l at_ ⟨0, nm⟩ = some ((nm.take k).map loC ++ nm.drop k) := by
 unfold mewslaw28.TableAll.loop2
 refine whileO_knownE _ (fun i => (⟨(i : Int), (nm.take i).map loC ++ nm.drop i⟩ : mewslaw28.TableAll.S2)) k (fun i hi => ?_) ?_ (by simp)
 ·have hil : i < nm.length := by omega
  have hl : ((nm.take i).map loC ++ nm.drop i).length = nm.length := by simp; omega
  have hx : ix ((nm.take i).map loC ++ nm.drop i) (i : Int) = nm[i] := by
   rw [ix_get (by omega), List.getElem_append_right (by simp; omega)]
   simp [List.getElem_drop]
   congr 1; omega
  have hc := nm[i].toNat_lt
  have hnext : (nm.take (i + 1)).map loC ++ nm.drop (i + 1) = upd ((nm.take i).map loC ++ nm.drop i) (i : Int) (loC nm[i]) := by
   unfold upd
   rw [Int.toNat_natCast, List.take_add_one, List.getElem?_eq_getElem hil]
   simp only [Option.toList_some, List.map_append, List.map_cons, List.map_nil]
   rw [List.set_append_right _ _ (by simp; omega)]
   have e0 : i - (List.map loC (nm.take i)).length = 0 := by simp; omega
   rw [e0, List.drop_eq_getElem_cons hil, List.set_cons_zero, List.append_assoc]
   rfl
  unfold mewslaw28.TableAll.body2
  simp only
  rw [e1, ix_get hj, e2, e3, if_pos (by omega), need_eq ⟨by omega, by omega⟩, need_eq ⟨by omega, by omega⟩, hx]
  have hcond : (if 65 ≤ ((nm[i]).toNat : Int) then
     need (InB (i : Int) ((nm.take i).map loC ++ nm.drop i).length) <|
     need (InB (i : Int) ((nm.take i).map loC ++ nm.drop i).length) <|
     some (decide (((nm[i]).toNat : Int) ≤ 90))
    else
     some false) = some (decide (65 ≤ nm[i].toNat ∧ nm[i].toNat ≤ 90)) := by
   rw [need_eq ⟨by omega, by omega⟩, need_eq ⟨by omega, by omega⟩, ← low_byte]
   by_cases h : 65 ≤ ((nm[i]).toNat : Int)
   ·rw [if_pos h, if_pos h]
   ·rw [if_neg h, if_neg h]
  rw [hcond, Option.bind_some, hnext]
  by_cases h : 65 ≤ nm[i].toNat ∧ nm[i].toNat ≤ 90
  ·rw [decide_eq_true h, if_pos rfl, need_eq ⟨by omega, by omega⟩, need_eq ⟨by omega, by omega⟩, need_eq ⟨by omega, by omega⟩, need_eq ⟨by omega, by omega⟩, u8w (by omega) (by omega)]
   have e : (nm[i].toNat : Int) + 32 = ((loC nm[i]).toNat : Int) := by
    unfold loC
    rw [if_pos h]
    simp; omega
   rw [e, need_eq (isU8_toNat _), u8_toNat, Option.bind_some, i64w (by omega) (by omega)]
   rfl
  ·rw [decide_eq_false h, if_neg (by decide), Option.bind_some, i64w (by omega) (by omega)]
   have e : loC nm[i] = nm[i] := by unfold loC; rw [if_neg h]
   rw [e]
   have : upd ((nm.take i).map loC ++ nm.drop i) (i : Int) nm[i] = (nm.take i).map loC ++ nm.drop i := by
    unfold upd
    rw [Int.toNat_natCast]
    have h2 : ((nm.take i).map loC ++ nm.drop i)[i]'(by omega) = nm[i] := by
     rw [← ix_get (xs := (nm.take i).map loC ++ nm.drop i) (by omega)]; exact hx
    rw [← h2, List.set_getElem_self]
   rw [this]
   rfl
 ·unfold mewslaw28.TableAll.body2
  simp only
  rw [e1, ix_get hj, e2, e3, if_neg (by omega)]

theorem Pure.TableAll {a0 a1 : Int} (h0 : (Lit.int .i64 a0).wf = true) (h1 : (Lit.int .i64 a1).wf = true) : mewslaw28.TableAll a0 a1 = some true := by
 obtain ⟨_, hcl, hl0, hlen⟩ := names_len
 have hasc := names_asc
 have hup := names_up
 have hsh := names_short
 have hfo := names_found
 unfold mewslaw28.TableAll
 rw [All_eq, Option.bind_some, Commands_eq, Option.bind_some]
 rw [hcl]
 generalize namesS = l at hl0 hlen hasc hup hsh hfo ⊢
 rw [if_pos rfl, Option.bind_some, if_neg (by simp only [decide_eq_true_eq]; omega)]
 have hloop : mewslaw28.TableAll.loop0 l ⟨0⟩ = some (.inl ()) := by
  unfold mewslaw28.TableAll.loop0
  refine whileO_knownE ⟨0⟩ (fun i => (⟨(i : Int)⟩ : mewslaw28.TableAll.S0)) l.length (fun i hi => ?_) ?_
  ·unfold mewslaw28.TableAll.body0
   simp only
   rw [if_pos (by omega)]
   by_cases h : 0 < i
   ·have hlt := hasc.get (i := i - 1) (j := i) (by omega) hi
    rw [if_pos (by omega), i64w (n := (i : Int) - 1) (by omega) (by omega), need_eq ⟨by omega, by omega⟩, need_eq ⟨by omega, by omega⟩, ix_get hi, show (i : Int) - 1 = ((i - 1 : Nat) : Int) by omega, ix_get (by omega), hlt, Option.bind_some, if_neg (by decide), i64w (by omega) (by omega)]
    rfl
   ·rw [if_neg (by omega), Option.bind_some, if_neg (by decide), i64w (by omega) (by omega)]
    rfl
  ·unfold mewslaw28.TableAll.body0
   exact if_neg (by show ¬ (l.length : Int) < (l.length : Int); omega)
 rw [hloop, Option.bind_some]
 simp only [onSum]
 obtain ⟨j, hjl, e1⟩ := u64_rem a0 l.length (by omega) (by omega)
 have hmem : l[j] ∈ l := List.getElem_mem hjl
 have hs := hsh _ hmem
 obtain ⟨k, hk, e3⟩ := u64_rem a1 (l[j].length + 1) (by omega) (by omega)
 have ew : IntKind.wrap .i64 ((l[j].length : Int) + 1) = ((l[j].length + 1 : Nat) : Int) := by rw [i64w (by omega) (by omega)]; omega
 have e3' : IntKind.wrap .i64 ((IntKind.wrap .u64 a1).tmod (IntKind.wrap .u64 (IntKind.wrap .i64 ((l[j].length : Int) + 1)))) = (k : Int) := by rw [ew]; exact e3
 have hlow := low_eq a1 l a0 l[j] (by omega) j k hjl e1 rfl (by omega) e3'
 have hupp : ((l[j].take k).map loC ++ l[j].drop k).map upC = l[j] := by
  rw [List.map_append, List.map_map]
  have h1 : (l[j].take k).map (upC ∘ loC) = l[j].take k := by
   rw [List.map_congr_left (g := id)]
   ·simp
   ·intro c hc
    exact upC_loC c (hup _ hmem c (List.mem_of_mem_take hc))
  have h2 : (l[j].drop k).map upC = l[j].drop k := by
   rw [List.map_congr_left (g := id)]
   ·simp
   ·intro c hc
    exact hup _ hmem c (List.mem_of_mem_drop hc)
  rw [h1, h2, List.take_append_drop]
 have hF := Find_eq ((l[j].take k).map loC ++ l[j].drop k) (by simp; omega)
 rw [hupp] at hF
 obtain ⟨f1, f2, f3, f4, f5⟩ := hfo _ hmem
 simp only [e1, ix_get hjl, e3', hlow]
 rw [need_eq (by rw [u64w (by omega) (by omega)]; omega), need_eq ⟨by omega, by omega⟩, need_eq (by omega), need_eq, need_eq ⟨by omega, by omega, by omega⟩, need_eq ⟨by omega, by omega⟩, Option.bind_some, hF, Option.bind_some]
 ·rcases f5 with f5 | f5
  ·simp [f1, f2, f3, f4, f5, alive_eq]
  ·simp [f1, f2, f3, f4, f5, alive_eq]
 ·rw [ew, u64w (by omega) (by omega)]; omega

end Go.Pu
