import Derived.Test.YtlehodoiabaaaaaFQPuDict6S
set_option maxHeartbeats 0
namespace Go.Pu
open Go.Lift

theorem front0_eq {r : Reg} {t n : Nat} {m : Tab} {x : Nd} {q0 : RP} (h : TabAt r t m n) (hm : m.ok) (h2 : m.two = false) (hk : x.key.length < 1000000) (hx : r[x.id]? = some (node x.key x.v q0)) (hxf : x.id ∉ m.foot t) :
  ∃ r', dict.Table_string.front (some (t, 0)) 0 (some (x.id, 0)) r = some r' ∧ TabAt r' t (m.ins0 x) n ∧ (∀ j, j ≠ x.id → j ≠ m.b0 → r'[j]? = r[j]?) ∧ r'.length = r.length := by
 have hnd := h.nd
 have hb0 : m.b0 ∈ m.blocks := by simp [Tab.blocks]
 simp only [Tab.foot, List.cons_append, List.nodup_cons, List.nodup_append, List.mem_cons, List.mem_append, not_or] at hnd hxf
 obtain ⟨⟨ht1, ht2⟩, hn1, hn2, hn3⟩ := hnd
 have hx0 : x.id ≠ t := hxf.1
 have hx1 : x.id ∉ m.blocks := hxf.2.1
 have hx2 : x.id ∉ ids m.all := hxf.2.2
 have hall : ids m.all = ids m.c0.flatten ++ ids m.c1.flatten := ids_append _ _
 have hb0f : m.b0 ∉ ids m.all := fun hj => hn3 _ hb0 _ hj rfl
 have hplt := plc_lt m.seed m.s0 x.key
 obtain ⟨r', e1, e2, e3, e4, q, e5⟩ := front_core (slot0_eq h hm (by omega)) h.h0 (by rw [hm.l0]; exact hplt) hx (fun e => hx1 (e ▸ hb0)) (fun hj => hx2 (by rw [hall]; exact List.mem_append_left _ hj)) (fun hj => hb0f (by rw [hall]; exact List.mem_append_left _ hj))
 refine ⟨r', e1, ⟨?_, e2, fun h3 => ?_, ?_⟩, e3, e4⟩
 ·rw [e3 t (fun e => hx0 e.symm) (fun e => ht1 (e ▸ hb0))]
  exact h.tab
 ·rw [show (m.ins0 x).two = m.two from rfl, h2] at h3; cases h3
 ·have hp := ids_perm (ins0_all hm x)
  have hfoot : ((m.ins0 x).foot t).Perm (x.id :: m.foot t) := by
   show ((t :: m.blocks) ++ ids (m.ins0 x).all).Perm _
   exact (hp.append_left _).trans List.perm_middle
  rw [hfoot.nodup_iff, List.nodup_cons]
  exact ⟨by simp only [Tab.foot, List.cons_append, List.mem_cons, List.mem_append, not_or]; exact ⟨hx0, hx1, hx2⟩, h.nd⟩

def Tab.has (m : Tab) (key : List UInt8) : Bool := m.all.any fun x => decide (x.key = key)

theorem has_iff {m : Tab} {key : List UInt8} : m.has key = true ↔ ∃ x, x ∈ m.all ∧ x.key = key := by
 simp [Tab.has]

theorem has_perm {m m' : Tab} (h : m.all.Perm m'.all) (key : List UInt8) : m.has key = m'.has key := by
 rw [Bool.eq_iff_iff, has_iff, has_iff]
 exact ⟨fun ⟨x, h1, h2⟩ => ⟨x, h.mem_iff.1 h1, h2⟩, fun ⟨x, h1, h2⟩ => ⟨x, h.mem_iff.2 h1, h2⟩⟩

def Tab.ins (m : Tab) (x : Nd) : Tab := if m.two then m.ins1 x else m.ins0 x
def Tab.grow (m : Tab) (b : Nat) : Tab := if m.two = false ∧ 2 ^ m.s0 < m.all.length ∧ m.s0 < 16 then m.part b (m.s0 + 1) else m
def Tab.put (m : Tab) (key : List UInt8) (v : (List UInt8)) (b : Nat) : Tab := if m.step.has key then m.step.setv key v else (m.step.ins ⟨b, key, v⟩).grow (b + 1)

theorem ins_all {m : Tab} (hm : m.ok) (x : Nd) : (m.ins x).all.Perm (x :: m.all) := by
 unfold Tab.ins
 split
 ·rename_i h2; exact ins1_all hm h2 x
 ·exact ins0_all hm x
theorem ins_ok {m : Tab} (hm : m.ok) {x : Nd} (hx : ∀ y, y ∈ m.all → y.key ≠ x.key) (hl : x.key.length < 1000000) (hf : m.all.length + 1 < 1000000) : (m.ins x).ok := by
 unfold Tab.ins
 split
 ·rename_i h2; exact ins1_ok hm h2 hx hl hf
 ·rename_i h2; exact ins0_ok hm (by simpa using h2) hx hl hf
theorem grow_all {m : Tab} (hm : m.ok) (b : Nat) : (m.grow b).all = m.all := by
 unfold Tab.grow
 split
 ·rename_i h; exact part_all hm h.1 _ _
 ·rfl
theorem grow_ok {m : Tab} (hm : m.ok) (b : Nat) : (m.grow b).ok := by
 unfold Tab.grow
 split
 ·rename_i h; exact part_ok hm h.1 b ⟨by have := hm.z0; omega, by omega, .inl rfl⟩
 ·exact hm

theorem not_has {m : Tab} {key : List UInt8} (h : m.has key = false) : ∀ y, y ∈ m.all → y.key ≠ key := fun y hy e => by
 rw [has_iff.2 ⟨y, hy, e⟩] at h; cases h

theorem put_ok {m : Tab} (hm : m.ok) {key : List UInt8} (v : (List UInt8)) (b : Nat) (hl : key.length < 1000000) (hf : m.all.length + 1 < 1000000) :
  (m.put key v b).ok ∧ (if m.has key then (m.put key v b).all.Perm (m.all.map fun x => if x.key = key then { x with v := v } else x) else (m.put key v b).all.Perm (⟨b, key, v⟩ :: m.all)) := by
 obtain ⟨h1, h2⟩ := step_ok hm
 unfold Tab.put
 rw [has_perm h2 key]
 by_cases hh : m.has key = true
 ·rw [if_pos hh, if_pos hh]
  exact ⟨setv_ok h1 key v, by rw [setv_all]; exact h2.map _⟩
 ·rw [if_neg hh, if_neg hh]
  have hh2 : m.has key = false := by simpa using hh
  have h3 : m.step.has key = false := (has_perm h2 key).trans hh2
  have hlen := h2.length_eq
  have h4 := ins_ok h1 (x := ⟨b, key, v⟩) (not_has h3) hl (by omega)
  exact ⟨grow_ok h4 _, by rw [grow_all h4]; exact (ins_all h1 _).trans (h2.cons _)⟩

theorem setv_len (m : Tab) (key : List UInt8) (v : (List UInt8)) : (m.setv key v).all.length = m.all.length := by rw [setv_all, List.length_map]

theorem ins_foot {m : Tab} (hm : m.ok) (t : Nat) (x : Nd) : ((m.ins x).foot t).Perm (x.id :: m.foot t) := by
 have hp := ids_perm (ins_all hm x)
 have hb : (m.ins x).blocks = m.blocks := by unfold Tab.ins; split <;> rfl
 unfold Tab.foot
 rw [hb]
 exact (hp.append_left _).trans List.perm_middle

theorem Put_eq {r : Reg} {t : Nat} {m : Tab} (h : TabAt r t m m.all.length) (hm : m.ok) {key : List UInt8} (v : (List UInt8)) (hl : key.length < 1000000) (hf : m.all.length + 1 < 1000000) :
  ∃ r', dict.Table_string.Put (some (t, 0)) key v r = some (!m.has key, r') ∧ TabAt r' t (m.put key v r.length) (m.put key v r.length).all.length ∧ Ext (m.foot t) r r' ∧ (∀ k, k ∈ (m.put key v r.length).foot t → k ∈ m.foot t ∨ r.length ≤ k) := by
 obtain ⟨r1, e1, h1, x1, len1, sub1⟩ := step_eq h hm
 obtain ⟨hm1, hp1⟩ := step_ok hm
 have hlen1 := hp1.length_eq
 have hhas := has_perm hp1 key
 unfold dict.Table_string.Put
 rw [ready_eq h, Option.bind_some, if_neg (show ¬ (!true) = true by decide), e1, Option.bind_some, find_eq h1 hm1 (by omega), Option.bind_some]
 unfold Tab.put
 rw [hhas]
 rcases seek_cases h1 hm1 key with ⟨s0, s1⟩ | ⟨a, x, s0, hfd⟩
 ·-- a new key
  have hh : m.has key = false := by
   cases hb : m.has key with
   | false => rfl
   | true =>
    rw [← hhas] at hb
    obtain ⟨y, hy, e⟩ := has_iff.1 hb
    exact absurd e (s1 y hy)
  rw [s0, hh, if_noSome, if_neg (show ¬ false = true by decide)]
  simp only [rpAdd_some, need_isSome]
  have hlt1 := h1.lt hm1
  -- the node
  have hR : ∀ k, k < r1.length → (r1 ++ [node key v none])[k]? = r1[k]? := fun k hk => List.getElem?_append_left hk
  have hx0 : (r1 ++ [node key v none])[r1.length]? = some (node key v none) := by simp
  have hRl : (r1 ++ [node key v none]).length = r1.length + 1 := by simp
  have h1' : TabAt (r1 ++ [node key v none]) t m.step m.all.length := h1.frame fun k hk => hR k (hlt1 k hk)
  have hxf : (⟨r1.length, key, v⟩ : Nd).id ∉ m.step.foot t := fun hj => Nat.lt_irrefl _ (hlt1 _ hj)
  have hfront : ∃ r2, dict.Table_string.front (some (t, 0)) (if m.step.two then 1 else 0) (some (r1.length, 0)) (r1 ++ [node key v none]) = some r2 ∧ TabAt r2 t (m.step.ins ⟨r1.length, key, v⟩) m.all.length ∧
    (∀ j, j ≠ r1.length → j ∉ m.step.blocks → r2[j]? = (r1 ++ [node key v none])[j]?) ∧ r2.length = r1.length + 1 := by
   unfold Tab.ins
   by_cases h2 : m.step.two = true
   ·obtain ⟨r2, a1, a2, a3, a4⟩ := front1_eq (x := ⟨r1.length, key, v⟩) h1' hm1 h2 hl hx0 hxf
    rw [h2]
    exact ⟨r2, a1, a2, fun j hj hb => a3 j hj (fun e => hb (by simp [Tab.blocks, h2, e])), a4.trans hRl⟩
   ·have h3 : m.step.two = false := by simpa using h2
    obtain ⟨r2, a1, a2, a3, a4⟩ := front0_eq (x := ⟨r1.length, key, v⟩) h1' hm1 h3 hl hx0 hxf
    rw [h3]
    exact ⟨r2, a1, a2, fun j hj hb => a3 j hj (fun e => hb (by simp [Tab.blocks, e])), a4.trans hRl⟩
  obtain ⟨r2, a1, a2, a3, a4⟩ := hfront
  have hm2 : (m.step.ins ⟨r1.length, key, v⟩).ok := ins_ok hm1 (not_has (by rw [hhas]; exact hh)) hl (by omega)
  have hall2 := ins_all hm1 ⟨r1.length, key, v⟩
  have hlen2 : (m.step.ins ⟨r1.length, key, v⟩).all.length = m.all.length + 1 := by rw [hall2.length_eq, List.length_cons, hlen1]
  have hfoot2 := ins_foot hm1 t ⟨r1.length, key, v⟩
  rw [len1] at a1 a2 hm2 hlen2 hfoot2 a3 a4
  generalize hM : m.step.ins ⟨r.length, key, v⟩ = M at a2 hm2 hlen2 hfoot2
  have e3 := rsto_at (vs := [.it .i64 ((m.all.length : Int) + 1)]) (j := 7) a2.tab (by simp [Tab.cells])
  generalize hr3 : r2.set t (splice (M.cells m.all.length) 7 [.it .i64 ((m.all.length : Int) + 1)]) = r3 at e3
  obtain ⟨k31, k32, k33, k34⟩ := rsto_one e3
  have hcast : ((m.all.length : Int) + 1) = ((m.all.length + 1 : Nat) : Int) := by omega
  have h3 : TabAt r3 t M M.all.length := a2.retab k32 (by rw [(k34 _ a2.tab).1, hlen2, hcast]; rfl) rfl rfl rfl rfl rfl
  have hsub2 : ∀ k, k ∈ M.foot t → k ∈ m.foot t ∨ r.length ≤ k := fun k hk => by
   rcases List.mem_cons.1 (hfoot2.mem_iff.1 hk) with rfl | hk
   ·exact .inr (Nat.le_refl _)
   ·exact .inl (sub1 k hk)
  have hout3 : ∀ k, k < r.length → k ∉ m.foot t → r3[k]? = r[k]? := fun k hk hkf => by
   have hkt : k ≠ t := fun e => hkf (by simp [Tab.foot, e])
   rw [k32 k hkt, a3 k (by omega) (fun hb => hkf (sub1 k (List.mem_append_left _ (List.mem_cons_of_mem _ hb)))), hR k (by omega)]
   exact x1.out k hk hkf
  have htwo : ((rLdB r1 (some (t, 0 + 6))).bind fun r77 => if r77 = true then some (1 : Int) else some 0) = some (if m.step.two then 1 else 0) := by
   rw [show 0 + 6 = 6 from rfl, h1.ldTwo, Option.bind_some]
   split <;> rfl
  have hn3 := h3.ldN
  have hwrap : IntKind.wrap .i64 ((m.all.length : Int) + 1) = (m.all.length : Int) + 1 := i64_wrap (by omega) (by omega)
  have hz := hm2.z0
  have hpow := two_pow_le16 hz.2
  rw [htwo, Option.bind_some]
  show ∃ r', letO (r1 ++ [node key v none]) _ = _ ∧ _
  rw [letO_def, len1, a1, Option.bind_some, show 0 + 7 = 7 from rfl, a2.ldN, Option.bind_some, hwrap, e3, Option.bind_some, need_eq (by decide), show 0 + 1 + 0 + 0 = 1 from rfl, h3.ldS0, Option.bind_some, show 0 + 1 + 0 + 1 = 2 from rfl, h3.ldL0, Option.bind_some, show 0 + 6 = 6 from rfl, h3.ldTwo, Option.bind_some, hn3]
  by_cases hg : M.two = false ∧ 2 ^ M.s0 < M.all.length ∧ M.s0 < 16
  ·obtain ⟨r4, b1, b2, b3, b4⟩ := part_eq h3 hm2 hg.1 (s := M.s0 + 1) (by omega)
   have hgr : M.grow (r.length + 1) = M.part r3.length (M.s0 + 1) := by unfold Tab.grow; rw [if_pos hg, k33, a4]
   have hpa := part_all hm2 hg.1 r3.length (M.s0 + 1)
   have hwr : IntKind.wrap .i64 ((M.s0 : Int) + 1) = ((M.s0 + 1 : Nat) : Int) := by rw [i64_wrap (by omega) (by omega)]; omega
   rw [hg.1, if_pos (show (!false) = true from rfl), Option.bind_some, if_pos (show ((rsLen (slc M.b0 (2 ^ M.s0)) : Nat) : Int) < (M.all.length : Int) from Int.ofNat_lt.2 hg.2.1), Option.bind_some, if_pos (by simp; omega), hwr, b1, hgr]
   refine ⟨r4, rfl, by rw [hpa]; exact b2, ⟨by omega, fun k hk hkf => ?_⟩, fun k hk => ?_⟩
   ·have hkt : k ≠ t := fun e => hkf (by simp [Tab.foot, e])
    rw [b3.out k (by omega) (by simpa using hkt)]
    exact hout3 k hk hkf
   ·have hk2 : k ∈ t :: [M.b0, r3.length] ++ ids (M.part r3.length (M.s0 + 1)).all := hk
    rw [hpa] at hk2
    by_cases he : k = r3.length
    ·exact .inr (by omega)
    ·refine hsub2 k ?_
     have e9 : M.foot t = t :: ([M.b0] ++ ids M.all) := by simp [Tab.foot, Tab.blocks, hg.1]
     rw [e9]
     simp only [List.cons_append, List.mem_cons, List.nil_append] at hk2 ⊢
     rcases hk2 with rfl | rfl | rfl | hk2
     ·exact .inl rfl
     ·exact .inr (.inl rfl)
     ·exact absurd rfl he
     ·exact .inr (.inr hk2)
  ·have hgr : M.grow (r.length + 1) = M := by unfold Tab.grow; rw [if_neg hg]
   rw [hgr]
   refine ⟨r3, ?_, h3, ⟨by omega, hout3⟩, hsub2⟩
   have hcond : ((if (!M.two) = true then (some (M.all.length : Int)).bind fun r119 => if ((rsLen (slc M.b0 (2 ^ M.s0)) : Nat) : Int) < r119 then some (decide ((M.s0 : Int) < 16)) else some false else some false) : Option Bool) = some false := by
    by_cases g1 : M.two = true
    ·rw [g1]; rfl
    ·have g1' : M.two = false := by simpa using g1
     rw [g1', if_pos (show (!false) = true from rfl), Option.bind_some]
     by_cases g2 : 2 ^ M.s0 < M.all.length
     ·rw [if_pos (show ((rsLen (slc M.b0 (2 ^ M.s0)) : Nat) : Int) < (M.all.length : Int) from Int.ofNat_lt.2 g2)]
      have : ¬ (M.s0 : Int) < 16 := fun g3 => hg ⟨g1', g2, by omega⟩
      simp [this]
     ·rw [if_neg (show ¬ ((rsLen (slc M.b0 (2 ^ M.s0)) : Nat) : Int) < (M.all.length : Int) from fun g3 => g2 (Int.ofNat_lt.1 g3))]
   rw [hcond]
   rfl
 ·have hh : m.has key = true := by rw [← hhas]; exact has_iff.2 ⟨x, hfd.mem, hfd.key⟩
  obtain ⟨q, hx⟩ := hfd.node
  have e2 := rsto_at (vs := [.tx v]) (j := 1) hx (by simp [node])
  generalize hr2 : r1.set x.id (splice (node x.key x.v q) 1 [.tx v]) = r2 at e2
  obtain ⟨h2, g2, len2⟩ := setv_eq (w := v) h1 hm1 hfd e2
  rw [hh, if_pos rfl, s0, if_isSome, need_isSome, rldP_of hfd.at_, Option.bind_some, need_isSome, rpAdd_some, show 0 + 1 = 1 from rfl, e2, Option.bind_some]
  have hfx : x.id ∈ m.foot t := sub1 _ (List.mem_append_right _ (mem_ids hfd.mem))
  refine ⟨r2, rfl, by rw [setv_len, hlen1]; exact h2, ⟨by omega, fun k hk hkf => ?_⟩, fun k hk => .inl (sub1 k ?_)⟩
  ·rw [g2 k (fun e => hkf (e ▸ hfx))]
   exact x1.out k hk hkf
  ·have hids : (m.step.setv key v).foot t = m.step.foot t := by
    show t :: m.step.blocks ++ ids (m.step.setv key v).all = _
    rw [setv_all]
    unfold Tab.foot ids
    rw [List.map_map]
    congr 1
    refine List.map_congr_left fun y _ => ?_
    show (if y.key = key then { y with v := v } else y : Nd).id = y.id
    split <;> rfl
   rw [← hids]; exact hk

end Go.Pu
