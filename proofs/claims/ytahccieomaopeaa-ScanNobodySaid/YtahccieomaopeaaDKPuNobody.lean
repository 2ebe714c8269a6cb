/- DictNobody. -/
import Derived.Test.YtahccieomaopeaaDKPuDictB
set_option maxHeartbeats 0
namespace Go.Pu
open Go.Lift

theorem SameT_self (a : List (List UInt8)) (ha : a.length < 9223372036854775807) : mewsref02.Same a a = some true := by
 unfold mewsref02.Same mewsref02.Same.loop0
 rw [if_pos rfl, whileO_knownE ⟨0⟩ (fun i => (⟨(i : Int)⟩ : mewsref02.Same.S0)) a.length (r := .inl ()) ?_ ?_]
 ·rfl
 ·intro i hi
  unfold mewsref02.Same.body0
  show (if (i : Int) < (a.length : Int) then _ else _) = _
  rw [if_pos (by omega), need_eq ⟨by show (0 : Int) ≤ (i : Int); omega, by show (i : Int) < (a.length : Int); omega⟩, need_eq ⟨by show (0 : Int) ≤ (i : Int); omega, by show (i : Int) < (a.length : Int); omega⟩, if_pos rfl]
  show some (Sum.inl (⟨IntKind.wrap .i64 ((i : Int) + 1)⟩ : mewsref02.Same.S0)) = _
  rw [i64_wrap (by omega) (by omega), show (i : Int) + 1 = ((i + 1 : Nat) : Int) by omega]
 ·unfold mewsref02.Same.body0
  exact if_neg (by show ¬ (a.length : Int) < (a.length : Int); omega)

def rawTab : List RV := [.it .u64 0, .it .i64 0, .sc none, .it .i64 0, .sc none, .it .i64 0, .bo false, .it .i64 0]

/-- A table that nobody made is made. -/
theorem ready_raw {r : Reg} {t : Nat} (h : r[t]? = some rawTab) : ∃ r', dict.Table_int.ready (some (t, 0)) r = some (true, r') ∧ TabAt r' t (Tab.fresh 0 r.length) 0 ∧ Ext [t] r r' ∧ r'.length = r.length + 2 := by
 obtain ⟨r1, e1, h1, x1, l1⟩ := New_eq r 0
 have hlt : t < r.length := (List.getElem?_eq_some_iff.1 h).1
 have ht1 : r1[t]? = some rawTab := (x1.out t hlt (by simp)).trans h
 have e2 := rsto_at (vs := (Tab.fresh 0 r.length).cells 0) (j := 0) ht1 (by simp [Tab.cells, rawTab])
 have hsp : splice rawTab 0 ((Tab.fresh 0 r.length).cells 0) = (Tab.fresh 0 r.length).cells 0 := rfl
 rw [hsp] at e2
 have t2 := set_same (x := (Tab.fresh 0 r.length).cells 0) ht1
 have g2 : ∀ j, j ≠ t → (r1.set t ((Tab.fresh 0 r.length).cells 0))[j]? = r1[j]? := fun j hj => set_ne hj
 have l2 : (r1.set t ((Tab.fresh 0 r.length).cells 0)).length = r1.length := List.length_set
 generalize r1.set t ((Tab.fresh 0 r.length).cells 0) = r2 at e2 t2 g2 l2
 refine ⟨r2, ?_, ⟨t2, ?_, (fun h => by cases h), ?_⟩, ⟨by omega, fun k hk hkt => (g2 k (fun e => hkt (by simp [e]))).trans (x1.out k hk (by simp))⟩, by omega⟩
 ·unfold dict.Table_int.ready
  rw [if_isSome]
  simp only [rpAdd_some, need_isSome]
  rw [need_eq (by decide), show 0 + 1 + 0 + 1 = 2 from rfl, rldL_of (rld_at h (show rawTab[2]? = some (.sc none) from rfl)), Option.bind_some, Option.bind_some, if_isNone, show 0 + 0 = 0 from rfl, rldI_of (rld_at h (show rawTab[0]? = some (.it .u64 0) from rfl)), Option.bind_some, e1, Option.bind_some, need_isSome]
  simp only [rpAdd_some]
  rw [show 0 + 0 = 0 from rfl, h1.ldSeed, Option.bind_some, show 0 + 1 = 1 from rfl, h1.ldS0, Option.bind_some, show 0 + 2 = 2 from rfl, h1.ldL0, Option.bind_some, show 0 + 3 = 3 from rfl, h1.ldS1, Option.bind_some, show 0 + 4 = 4 from rfl, rldL_of (h1.ld (j := 4) rfl), Option.bind_some, show 0 + 5 = 5 from rfl, h1.ldMoved, Option.bind_some, show 0 + 6 = 6 from rfl, h1.ldTwo, Option.bind_some, show 0 + 7 = 7 from rfl, h1.ldN, Option.bind_some]
  show ((rSto r1 (some (t, 0)) ((Tab.fresh 0 r.length).cells 0)).bind _).bind _ = _
  rw [e2]
  rfl
 ·refine h1.h0.frame (g2 _ (show r.length ≠ t by omega)) fun x hx => ?_
  have hx : x ∈ (List.replicate (2 ^ 2) ([] : List Nd)).flatten := hx
  rw [flatten_replicate_nil] at hx
  cases hx
 ·show (t :: [r.length] ++ ids []).Nodup
  simp [ids]
  omega

theorem fresh_put (b0 b : Nat) (key : List UInt8) (v : Int) : (Tab.fresh 0 b0).put key v b = { Tab.fresh 0 b0 with c0 := pushAt (List.replicate (2 ^ 2) []) (plc 0 2 key) ⟨b, key, v⟩ } := by
 have h1 : (Tab.fresh 0 b0).step = Tab.fresh 0 b0 := rfl
 have h2 : (Tab.fresh 0 b0).has key = false := rfl
 unfold Tab.put
 rw [h1, h2, if_neg (show ¬ false = true by decide)]
 have h3 : (Tab.fresh 0 b0).ins ⟨b, key, v⟩ = { Tab.fresh 0 b0 with c0 := pushAt (List.replicate (2 ^ 2) []) (plc 0 2 key) ⟨b, key, v⟩ } := rfl
 have h4 := (ins_all (fresh_ok 0 b0) ⟨b, key, v⟩).length_eq
 unfold Tab.grow
 rw [if_neg, h3]
 rintro ⟨_, h5, _⟩
 rw [h4] at h5
 exact absurd h5 (by show ¬ 2 ^ 2 < 1; decide)

theorem pushAt_chain (b b' : Nat) (key : List UInt8) (v : Int) (p i : Nat) : ((pushAt (List.replicate (2 ^ 2) []) p (⟨b, key, v⟩ : Nd)).getD i []).map (·.key) = ((pushAt (List.replicate (2 ^ 2) []) p (⟨b', key, v⟩ : Nd)).getD i []).map (·.key) := by
 have h : ∀ b, ((pushAt (List.replicate (2 ^ 2) []) p (⟨b, key, v⟩ : Nd)).getD i []).map (·.key) = (((List.replicate (2 ^ 2) []).set p [key]).getD i [] : List (List UInt8)) := by
  intro b
  have h1 : (List.replicate (2 ^ 2) ([] : List Nd)).getD p [] = [] := by
   simp only [List.getD, List.getElem?_replicate]
   split <;> rfl
  unfold pushAt
  rw [h1]
  simp only [List.getD, List.getElem?_set, List.length_replicate, List.getElem?_replicate]
  split
  ·split <;> rfl
  ·split <;> rfl
 rw [h b, h b']

theorem DictNobody_pure (key : List UInt8) (v n : Int) : mewslaw07.DictNobody key v n = some true := by
 unfold mewslaw07.DictNobody
 by_cases hk : (200 : Int) < (key.length : Int)
 ·rw [if_pos hk, alive07]; rfl
 ·rw [if_neg hk]
  have hk' : key.length < 1000000 := by omega
  have hStep : dict.Table_int.Step none n ([] : Reg) = some (0, []) := by
   unfold dict.Table_int.Step dict.Table_int.Step.loop0
   rw [whileO_ret (r := (0, ([] : Reg))) rfl]
   rfl
  have e0 : (dict.Table_int.Get none key ([] : Reg)) = some (0, false) := rfl
  have e1 : dict.Table_int.Clear none ([] : Reg) = some [] := rfl
  have e2 : dict.Table_int.Put none key v ([] : Reg) = some (false, []) := rfl
  have e3 : dict.Table_int.Drop none key ([] : Reg) = some (false, []) := rfl
  have e4 : dict.Table_int.Len none ([] : Reg) = some 0 := rfl
  have e5 : dict.Table_int.Size none ([] : Reg) = some (0, []) := rfl
  have e6 : dict.Table_int.Moved none ([] : Reg) = some (-1) := rfl
  have e7 : dict.Table_int.Toward none ([] : Reg) = some (-1) := rfl
  have e8 : dict.Table_int.Keys none ([] : Reg) = some ([], []) := rfl
  have e9 : dict.Table_int.Chain none true n ([] : Reg) = some ([], []) := rfl
  rw [e0, Option.bind_some, e1, Option.bind_some, e2, Option.bind_some, if_neg (show ¬ false = true by decide), if_pos rfl, if_neg (show ¬ false = true by decide), e3, Option.bind_some, if_neg (show ¬ false = true by decide), hStep, Option.bind_some, if_pos rfl, e4, Option.bind_some, if_pos rfl, e5, Option.bind_some, if_pos rfl, e6, Option.bind_some, if_pos rfl, e7, Option.bind_some, if_pos rfl, e8, Option.bind_some, e9, Option.bind_some]
  show ((some ((!decide (IntKind.wrap .i64 (0 + 0) = 0)), ([] : Reg)) : Option (Bool × Reg))).bind _ = _
  rw [Option.bind_some, if_neg (show ¬ (!decide (IntKind.wrap .i64 (0 + 0) = 0)) = true by decide), letO_def]
  show (dict.New_int 0 [rawTab]).bind _ = _
  obtain ⟨r1, n1, hw1, x1, l1⟩ := New_eq [rawTab] 0
  have hw1 : TabAt r1 2 (Tab.fresh 0 1) 0 := hw1
  have l1 : r1.length = 3 := l1
  have hu1 : r1[0]? = some rawTab := x1.out 0 (by decide) (by simp)
  rw [n1, Option.bind_some]
  have g1 : dict.Table_int.Get (some (0, 0)) key r1 = some (0, false) := by
   unfold dict.Table_int.Get
   rw [if_isSome]
   simp only [rpAdd_some, need_isSome]
   rw [show 0 + 7 = 7 from rfl, rldI_of (rld_at hu1 (show rawTab[7]? = some (.it .i64 0) from rfl))]
   rfl
  show (dict.Table_int.Get (some (0, 0)) key r1).bind _ = _
  rw [g1, Option.bind_some]
  obtain ⟨r2, q1, hu2, x2, l2⟩ := ready_raw hu1
  rw [l1] at hu2
  have hw2 : TabAt r2 2 (Tab.fresh 0 1) 0 := hw1.frame fun k hk => x2.out k (by have := hw1.lt (fresh_ok _ _) k hk; omega) (fun h0 => by
   have h0 : k = 0 := by simpa using h0
   subst h0
   exact absurd hk (by decide))
  have s1 : dict.Table_int.Size (some (0, 0)) r1 = some (2, r2) := by
   unfold dict.Table_int.Size
   rw [q1, Option.bind_some, if_neg (show ¬ (!true) = true by decide)]
   simp only [rpAdd_some, need_isSome]
   rw [need_eq (by decide), show 0 + 1 + 0 + 0 = 1 from rfl, hu2.ldS0]
   rfl
  have s2 : dict.Table_int.Size (some (2, 0)) r2 = some (2, r2) := Size_eq' hw2
  rw [if_pos rfl, if_neg (show ¬ false = true by decide)]
  show (((dict.Table_int.Size (some (0, 0)) r1).bind _).bind _) = _
  rw [s1, Option.bind_some]
  show (((dict.Table_int.Size (some (2, 0)) r2).bind _).bind _) = _
  rw [s2, Option.bind_some, if_pos rfl]
  show (((dict.Table_int.Moved (some (0, 0)) r2).bind _).bind _) = _
  rw [Moved_eq hu2, Option.bind_some, if_pos (show (if (Tab.fresh 0 3).two = true then ((Tab.fresh 0 3).moved : Int) else -1) = -1 from rfl)]
  obtain ⟨r3, p1, hu3, x3, f3⟩ := Put_eq (m := Tab.fresh 0 3) hu2 (fresh_ok _ _) v hk' (by decide)
  have hw3 : TabAt r3 2 (Tab.fresh 0 1) 0 := hw2.frame fun k hk => x3.out k (hw2.lt (fresh_ok _ _) k hk) (fun h0 => by
   have hk1 : k ∈ [2, 1] := hk
   have h01 : k ∈ [0, 3] := h0
   simp at hk1 h01
   omega)
  obtain ⟨r4, p2, hw4, x4, f4⟩ := Put_eq (m := Tab.fresh 0 1) hw3 (fresh_ok _ _) v hk' (by decide)
  obtain ⟨oku, _⟩ := put_ok (fresh_ok 0 3) v r2.length hk' (by decide)
  obtain ⟨okw, _⟩ := put_ok (fresh_ok 0 1) v r3.length hk' (by decide)
  have l23 : 5 ≤ r2.length := by omega
  have hu4 : TabAt r4 0 ((Tab.fresh 0 3).put key v r2.length) ((Tab.fresh 0 3).put key v r2.length).all.length := hu3.frame fun k hk => x4.out k (hu3.lt oku k hk) (fun h0 => by
   have h01 : k ∈ [2, 1] := h0
   simp at h01
   rcases f3 k hk with h5 | h5
   ·have h5 : k ∈ [0, 3] := h5
    simp at h5
    omega
   ·omega)
  show (((dict.Table_int.Put (some (0, 0)) key v r2).bind _).bind _) = _
  rw [p1, Option.bind_some, if_neg (show ¬ (!(!(Tab.fresh 0 3).has key)) = true by rw [show (Tab.fresh 0 3).has key = false from rfl]; decide)]
  show (((dict.Table_int.Put (some (2, 0)) key v r3).bind _).bind _) = _
  rw [p2, Option.bind_some, Option.bind_some, if_neg (show ¬ (!(!(Tab.fresh 0 1).has key)) = true by rw [show (Tab.fresh 0 1).has key = false from rfl]; decide)]
  show (((dict.Table_int.Keys (some (0, 0)) r4).bind _).bind _) = _
  rw [Keys_eq hu4 oku, Option.bind_some]
  show (((dict.Table_int.Keys (some (2, 0)) r4).bind _).bind _) = _
  rw [Keys_eq hw4 okw, Option.bind_some]
  have one : ∀ b0 b, keysOf ((Tab.fresh 0 b0).put key v b).all = [key] := by
   intro b0 b
   obtain ⟨_, hp⟩ := put_ok (fresh_ok 0 b0) (key := key) v b hk' (by show 0 + 1 < 1000000; decide)
   rw [show (Tab.fresh 0 b0).has key = false from rfl, if_neg (show ¬ false = true by decide), fresh_all] at hp
   rw [List.perm_singleton.1 hp]
   rfl
  rw [one, one, SameT_self _ (by simp), Option.bind_some, if_pos rfl]
  show (((dict.Table_int.Chain (some (0, 0)) true n r4).bind _).bind _) = _
  rw [Chain_eq hu4 oku, Option.bind_some]
  show (((dict.Table_int.Chain (some (2, 0)) true n r4).bind _).bind _) = _
  rw [Chain_eq hw4 okw, Option.bind_some]
  have hchain : ((Tab.fresh 0 3).put key v r2.length).chain true n = ((Tab.fresh 0 1).put key v r3.length).chain true n := by
   unfold Tab.chain
   rw [fresh_put, fresh_put]
   split
   ·rfl
   ·exact pushAt_chain _ _ _ _ _ _
  have hcl : (((Tab.fresh 0 1).put key v r3.length).chain true n).length < 9223372036854775807 := by
   unfold Tab.chain
   split
   ·decide
   ·have := chain_few okw (.inl rfl) n.toNat
    have := okw.few
    rw [List.length_map, if_pos rfl]
    omega
  rw [hchain, SameT_self _ hcl, Option.bind_some, if_pos rfl, alive07]
  rfl

end Go.Pu

namespace Go.Pu.Pure
open Go.Lift Go.Pu
theorem DictNobody {a0 : List UInt8} {a1 a2 : Int} (h0 : a0.length ≤ 140737488351232) (h1 : (Lit.int .i64 a1).wf = true) (h2 : (Lit.int .i64 a2).wf = true) : mewslaw07.DictNobody a0 a1 a2 = some true := DictNobody_pure a0 a1 a2
end Go.Pu.Pure
