import Derived.Test.YtlehodoiabaaaaaFQPuDict2S
set_option maxHeartbeats 0
namespace Go.Pu
open Go.Lift

theorem TabAt.ld {r : Reg} {t : Nat} {m : Tab} {n : Nat} (h : TabAt r t m n) {j : Nat} {v : RV} (hv : (m.cells n)[j]? = some v) : rLd r (some (t, j)) = some v := rld_at h.tab hv
theorem TabAt.ldSeed {r : Reg} {t : Nat} {m : Tab} {n : Nat} (h : TabAt r t m n) : rLdI .u64 r (some (t, 0)) = some m.seed := rldI_of (h.ld rfl)
theorem TabAt.ldS0 {r : Reg} {t : Nat} {m : Tab} {n : Nat} (h : TabAt r t m n) : rLdI .i64 r (some (t, 1)) = some (m.s0 : Int) := rldI_of (h.ld rfl)
theorem TabAt.ldL0 {r : Reg} {t : Nat} {m : Tab} {n : Nat} (h : TabAt r t m n) : rLdL r (some (t, 2)) = some (slc m.b0 (2 ^ m.s0)) := rldL_of (h.ld rfl)
theorem TabAt.ldS1 {r : Reg} {t : Nat} {m : Tab} {n : Nat} (h : TabAt r t m n) : rLdI .i64 r (some (t, 3)) = some (m.s1 : Int) := rldI_of (h.ld rfl)
theorem TabAt.ldL1 {r : Reg} {t : Nat} {m : Tab} {n : Nat} (h : TabAt r t m n) (h2 : m.two = true) : rLdL r (some (t, 4)) = some (slc m.b1 (2 ^ m.s1)) := rldL_of (h.ld (by simp [Tab.cells, h2]))
theorem TabAt.ldMoved {r : Reg} {t : Nat} {m : Tab} {n : Nat} (h : TabAt r t m n) : rLdI .i64 r (some (t, 5)) = some (m.moved : Int) := rldI_of (h.ld rfl)
theorem TabAt.ldTwo {r : Reg} {t : Nat} {m : Tab} {n : Nat} (h : TabAt r t m n) : rLdB r (some (t, 6)) = some m.two := rldB_of (h.ld rfl)
theorem TabAt.ldN {r : Reg} {t : Nat} {m : Tab} {n : Nat} (h : TabAt r t m n) : rLdI .i64 r (some (t, 7)) = some (n : Int) := rldI_of (h.ld rfl)

theorem Place_eq (n : Nat) (b : Int) (hn : n < 2 ^ 64) : hash.Place n b = some ((n % 2 ^ kz b : Nat) : Int) := by
 unfold hash.Place
 rw [low_eq n b hn, Option.bind_some]
 have h1 := two_pow_le16 (kz_le b)
 have h2 : n % 2 ^ kz b < 2 ^ kz b := Nat.mod_lt _ (Nat.pow_pos (by decide))
 rw [i64_wrap (by omega) (by omega)]

theorem plc_eq {seed : Int} {key : List UInt8} {k : Nat} (hk : k ≤ 16) : hash.Place (ofN seed key) (k : Int) = some (plc seed k key : Int) := by
 have h1 := ofN_range seed key
 have e : ofN seed key = (((ofN seed key).toNat : Nat) : Int) := by omega
 have h2 : kz (k : Int) = k := by have := kz_self (b := (k : Int)) (by omega) (by omega); omega
 rw [e, Place_eq _ _ (by omega), h2]
 rfl

theorem slot0_eq {r : Reg} {t : Nat} {m : Tab} {n : Nat} (h : TabAt r t m n) (hm : m.ok) {key : List UInt8} (hk : key.length < 9223372036854775807) : dict.Table_string.slot (some (t, 0)) 0 key r = some (some (m.b0, plc m.seed m.s0 key)) := by
 unfold dict.Table_string.slot
 simp only [rpAdd_some, need_isSome]
 rw [need_eq (by decide)]
 show (rLdL r (some (t, 2))).bind _ = _
 rw [h.ldL0, Option.bind_some]
 show (rLdI .u64 r (some (t, 0))).bind _ = _
 rw [h.ldSeed, Option.bind_some, Of_eq _ _ hk, Option.bind_some]
 show (rLdI .i64 r (some (t, 1))).bind _ = _
 rw [h.ldS0, Option.bind_some, plc_eq hm.z0.2, Option.bind_some, need_eq]
 ·show some (some (m.b0, 0 + ((plc m.seed m.s0 key : Int)).toNat * 1)) = _
  rw [Int.toNat_natCast, Nat.zero_add, Nat.mul_one]
 ·show InB _ (2 ^ m.s0)
  have := plc_lt m.seed m.s0 key
  exact ⟨by omega, by exact_mod_cast this⟩

theorem slot1_eq {r : Reg} {t : Nat} {m : Tab} {n : Nat} (h : TabAt r t m n) (hm : m.ok) (h2 : m.two = true) {key : List UInt8} (hk : key.length < 9223372036854775807) : dict.Table_string.slot (some (t, 0)) 1 key r = some (some (m.b1, plc m.seed m.s1 key)) := by
 unfold dict.Table_string.slot
 simp only [rpAdd_some, need_isSome]
 rw [need_eq (by decide)]
 show (rLdL r (some (t, 4))).bind _ = _
 rw [h.ldL1 h2, Option.bind_some]
 show (rLdI .u64 r (some (t, 0))).bind _ = _
 rw [h.ldSeed, Option.bind_some, Of_eq _ _ hk, Option.bind_some]
 show (rLdI .i64 r (some (t, 3))).bind _ = _
 rw [h.ldS1, Option.bind_some, plc_eq (hm.z1 h2).2.1, Option.bind_some, need_eq]
 ·show some (some (m.b1, 0 + ((plc m.seed m.s1 key : Int)).toNat * 1)) = _
  rw [Int.toNat_natCast, Nat.zero_add, Nat.mul_one]
 ·show InB _ (2 ^ m.s1)
  have := plc_lt m.seed m.s1 key
  exact ⟨by omega, by exact_mod_cast this⟩

/-- A chain is gone along. -/
theorem find2_eq {r : Reg} {key : List UInt8} : ∀ {xs : List Nd} {a : Nat × Nat}, Begins r a xs →
  dict.Table_string.find.loop2 r key ⟨some a⟩ = some (match seek key a xs with | some b => .inr (.inr (.inr (some b))) | none => .inl ())
 | [], a, h => by
  obtain ⟨p, h1, rfl⟩ := h
  unfold dict.Table_string.find.loop2
  refine whileO_ret ?_
  unfold dict.Table_string.find.body2
  rw [need_isSome, rldP_of h1, Option.bind_some]
  rfl
 | x :: xs, a, h => by
  obtain ⟨p, h1, rfl, q, h3, h4⟩ := h
  have hkey : rLdS r (rpAdd (some (x.id, 0)) 0) = some x.key := rldS_of (rld_at h3 rfl)
  by_cases hk : x.key = key
  ·have e : seek key a (x :: xs) = some a := by unfold seek; rw [if_pos hk]
   rw [e]
   unfold dict.Table_string.find.loop2
   refine whileO_ret ?_
   unfold dict.Table_string.find.body2
   rw [need_isSome, rldP_of h1, Option.bind_some, if_isSome, Option.bind_some, need_isSome, hkey, Option.bind_some, if_pos hk]
  ·have e : seek key a (x :: xs) = seek key (x.id, 2) xs := by conv => lhs; unfold seek; rw [if_neg hk]
   rw [e, ← find2_eq (xs := xs) (a := (x.id, 2)) ⟨q, node_next h3, h4⟩]
   unfold dict.Table_string.find.loop2
   refine whileO_step ?_
   unfold dict.Table_string.find.body2
   rw [need_isSome, rldP_of h1, Option.bind_some, if_isSome, Option.bind_some, need_isSome, hkey, Option.bind_some, if_neg hk, Option.bind_some, need_isSome]
   rfl

/-- What points at a key. -/
def Tab.seek (m : Tab) (key : List UInt8) : Option (Nat × Nat) :=
 match Go.Pu.seek key (m.b0, plc m.seed m.s0 key) (m.c0.getD (plc m.seed m.s0 key) []) with
 | some a => some a
 | none => if m.two then Go.Pu.seek key (m.b1, plc m.seed m.s1 key) (m.c1.getD (plc m.seed m.s1 key) []) else none

theorem Half.at {r : Reg} {b : Nat} {c : List (List Nd)} (h : Half r b c) {i : Nat} (hi : i < c.length) : Begins r (b, i) (c.getD i []) := h.cell i _ (getD_of hi)

theorem find_eq {r : Reg} {t : Nat} {m : Tab} {n : Nat} (h : TabAt r t m n) (hm : m.ok) {key : List UInt8} (hk : key.length < 9223372036854775807) : dict.Table_string.find (some (t, 0)) key r = some (m.seek key) := by
 have hb0 := h.h0.at (i := plc m.seed m.s0 key) (by rw [hm.l0]; exact plc_lt _ _ _)
 have hend : whileO (dict.Table_string.find.body0 (some (t, 0)) r key) ⟨2⟩ = some (.inl ()) := by
  refine whileO_ret ?_
  rfl
 unfold dict.Table_string.find dict.Table_string.find.loop0 Tab.seek
 have s0 : dict.Table_string.find.body0 (some (t, 0)) r key ⟨0⟩ = some (match Go.Pu.seek key (m.b0, plc m.seed m.s0 key) (m.c0.getD (plc m.seed m.s0 key) []) with | some a => .inr (.inr (some a)) | none => .inl ⟨1⟩) := by
  unfold dict.Table_string.find.body0
  rw [if_pos (by decide), if_neg (by decide)]
  rw [Option.bind_some, if_neg (by decide), slot0_eq h hm hk, Option.bind_some, find2_eq hb0, Option.bind_some]
  cases Go.Pu.seek key (m.b0, plc m.seed m.s0 key) (m.c0.getD (plc m.seed m.s0 key) []) <;> rfl
 cases e0 : Go.Pu.seek key (m.b0, plc m.seed m.s0 key) (m.c0.getD (plc m.seed m.s0 key) []) with
 | some a =>
  rw [e0] at s0
  rw [whileO_ret s0]
  rfl
 | none =>
  rw [e0] at s0
  rw [whileO_step s0]
  by_cases h2 : m.two = true
  ·have hb1 := (h.h1 h2).at (i := plc m.seed m.s1 key) (by rw [hm.l1 h2]; exact plc_lt _ _ _)
   have s1 : dict.Table_string.find.body0 (some (t, 0)) r key ⟨1⟩ = some (match Go.Pu.seek key (m.b1, plc m.seed m.s1 key) (m.c1.getD (plc m.seed m.s1 key) []) with | some a => .inr (.inr (some a)) | none => .inl ⟨2⟩) := by
    unfold dict.Table_string.find.body0
    rw [if_pos (by decide), if_pos rfl, need_isSome]
    show (((rLdB r (some (t, 6))).bind _).bind _).bind _ = _
    rw [h.ldTwo, Option.bind_some, Option.bind_some, h2, if_neg (by decide), slot1_eq h hm h2 hk, Option.bind_some, find2_eq hb1, Option.bind_some]
    cases Go.Pu.seek key (m.b1, plc m.seed m.s1 key) (m.c1.getD (plc m.seed m.s1 key) []) <;> rfl
   simp only [h2, if_true]
   cases e1 : Go.Pu.seek key (m.b1, plc m.seed m.s1 key) (m.c1.getD (plc m.seed m.s1 key) []) with
   | some a =>
    rw [e1] at s1
    rw [whileO_ret s1]
    rfl
   | none =>
    rw [e1] at s1
    rw [whileO_step s1, hend]
    rfl
  ·have h3 : m.two = false := by simpa using h2
   have s1 : dict.Table_string.find.body0 (some (t, 0)) r key ⟨1⟩ = some (.inr (.inl ())) := by
    unfold dict.Table_string.find.body0
    rw [if_pos (by decide), if_pos rfl, need_isSome]
    show (((rLdB r (some (t, 6))).bind _).bind _).bind _ = _
    rw [h.ldTwo, Option.bind_some, Option.bind_some, h3, if_pos (by decide)]
    rfl
   rw [whileO_ret s1, h3]
   rfl

/-- A node is put ahead of all others at its place. -/
theorem front_core {r : Reg} {t b p : Nat} {k : Int} {c : List (List Nd)} {x : Nd} {q0 : RP} (hs : dict.Table_string.slot (some (t, 0)) k x.key r = some (some (b, p))) (h : Half r b c) (hp : p < c.length)
  (hx : r[x.id]? = some (node x.key x.v q0)) (hne : x.id ≠ b) (hxc : x.id ∉ ids c.flatten) (hbc : b ∉ ids c.flatten) :
  ∃ r2, dict.Table_string.front (some (t, 0)) k (some (x.id, 0)) r = some r2 ∧ Half r2 b (pushAt c p x) ∧ (∀ j, j ≠ x.id → j ≠ b → r2[j]? = r[j]?) ∧ r2.length = r.length ∧
   ∃ q, r2[x.id]? = some (node x.key x.v q) := by
 obtain ⟨q, hq, hch⟩ := h.at hp
 obtain ⟨cs, hcs, hcl⟩ := h.blk
 have e1 : rSto r (some (x.id, 2)) [.pt q] = some (r.set x.id (node x.key x.v q)) := by
  rw [rsto_at hx (by simp [node])]; rfl
 have hb1 : (r.set x.id (node x.key x.v q))[b]? = some cs := (set_ne (fun e => hne e.symm)).trans hcs
 have hpl : p + 1 ≤ cs.length := by omega
 have e2 := rsto_at (vs := [.pt (some (x.id, 0))]) hb1 hpl
 generalize hr1 : r.set x.id (node x.key x.v q) = r1 at e1 e2 hb1
 have hx1 : r1[x.id]? = some (node x.key x.v q) := by rw [← hr1]; exact set_same hx
 have f1 : ∀ j, j ≠ x.id → r1[j]? = r[j]? := fun j hj => by rw [← hr1]; exact set_ne hj
 generalize hr2 : r1.set b (splice cs p [.pt (some (x.id, 0))]) = r2 at e2
 obtain ⟨k1, k2, k3, k4⟩ := rsto_one e2
 refine ⟨r2, ?_, ⟨⟨_, (k4 cs hb1).1, ?_⟩, fun i xs hi => ?_⟩, fun j h1 h2 => (k2 j h2).trans (f1 j h1), ?_, q, (k2 _ hne).trans hx1⟩
 ·unfold dict.Table_string.front
  simp only [rpAdd_some, need_isSome]
  rw [rldS_of (rld_at hx rfl), Option.bind_some, hs, Option.bind_some, need_isSome, rldP_of hq, Option.bind_some, e1, Option.bind_some, e2]
  rfl
 ·rw [List.length_set, pushAt_length]; exact hcl
 ·have nodes : ∀ y, y ∈ c.flatten → r2[y.id]? = r[y.id]? := fun y hy => (k2 _ (fun e => hbc (by rw [show b = y.id from e.symm]; exact mem_ids hy))).trans (f1 _ (fun e => hxc (by rw [← e]; exact mem_ids hy)))
  rcases pushAt_get hi with ⟨rfl, rfl⟩ | ⟨h1, h2⟩
  ·refine ⟨some (x.id, 0), by rw [k1, if_pos rfl], rfl, q, (k2 _ hne).trans hx1, hch.frame fun y hy => nodes y ?_⟩
   exact List.mem_flatten.2 ⟨_, List.mem_of_getElem? (getD_of hp), hy⟩
  ·obtain ⟨p', h3, h4⟩ := h.cell i xs h2
   refine ⟨p', ?_, h4.frame fun y hy => nodes y (List.mem_flatten.2 ⟨_, List.mem_of_getElem? h2, hy⟩)⟩
   rw [k1, if_neg (fun e => h1 (by injection e))]
   rw [rld_frame (a := (b, i)) (f1 b (fun e => hne e.symm))]
   exact h3
 ·rw [k3, ← hr1, List.length_set]

theorem ids_append (l l' : List Nd) : ids (l ++ l') = ids l ++ ids l' := List.map_append
theorem ids_perm {l l' : List Nd} (h : l.Perm l') : (ids l).Perm (ids l') := h.map _

/-- A node is put ahead in the new half. -/
theorem front1_eq {r : Reg} {t n : Nat} {m : Tab} {x : Nd} {q0 : RP} (h : TabAt r t m n) (hm : m.ok) (h2 : m.two = true) (hk : x.key.length < 1000000) (hx : r[x.id]? = some (node x.key x.v q0)) (hxf : x.id ∉ m.foot t) :
  ∃ r', dict.Table_string.front (some (t, 0)) 1 (some (x.id, 0)) r = some r' ∧ TabAt r' t (m.ins1 x) n ∧ (∀ j, j ≠ x.id → j ≠ m.b1 → r'[j]? = r[j]?) ∧ r'.length = r.length := by
 have hnd := h.nd
 have hb1 : m.b1 ∈ m.blocks := by simp [Tab.blocks, h2]
 simp only [Tab.foot, List.cons_append, List.nodup_cons, List.nodup_append, List.mem_cons, List.mem_append, not_or] at hnd hxf
 obtain ⟨⟨ht1, ht2⟩, hn1, hn2, hn3⟩ := hnd
 have hx0 : x.id ≠ t := hxf.1
 have hx1 : x.id ∉ m.blocks := hxf.2.1
 have hx2 : x.id ∉ ids m.all := hxf.2.2
 have hall : ids m.all = ids m.c0.flatten ++ ids m.c1.flatten := ids_append _ _
 have hb1f : m.b1 ∉ ids m.all := fun hj => hn3 _ hb1 _ hj rfl
 have hb0f : m.b0 ∉ ids m.all := fun hj => hn3 _ (by simp [Tab.blocks]) _ hj rfl
 have hbb : m.b0 ≠ m.b1 := by
  intro e
  simp [Tab.blocks, h2, e] at hn1
 have hplt := plc_lt m.seed m.s1 x.key
 obtain ⟨r', e1, e2, e3, e4, q, e5⟩ := front_core (slot1_eq h hm h2 (by omega)) (h.h1 h2) (by rw [hm.l1 h2]; exact hplt) hx (fun e => hx1 (e ▸ hb1)) (fun hj => hx2 (by rw [hall]; exact List.mem_append_right _ hj)) (fun hj => hb1f (by rw [hall]; exact List.mem_append_right _ hj))
 refine ⟨r', e1, ⟨?_, ?_, fun _ => e2, ?_⟩, e3, e4⟩
 ·rw [e3 t (fun e => hx0 e.symm) (fun e => ht1 (e ▸ hb1))]
  exact h.tab
 ·refine h.h0.frame (e3 _ (fun e => hx1 (by simp [Tab.blocks, ← e])) hbb) fun y hy => e3 _ (fun e => hx2 ?_) (fun e => hb1f ?_)
  ·rw [← e]; exact mem_ids (List.mem_append_left _ hy)
  ·rw [← e]; exact mem_ids (List.mem_append_left _ hy)
 ·have hp := ids_perm (ins1_all hm h2 x)
  have hfoot : ((m.ins1 x).foot t).Perm (x.id :: m.foot t) := by
   show ((t :: m.blocks) ++ ids (m.ins1 x).all).Perm _
   exact (hp.append_left _).trans List.perm_middle
  rw [hfoot.nodup_iff, List.nodup_cons]
  exact ⟨by simp only [Tab.foot, List.cons_append, List.mem_cons, List.mem_append, not_or]; exact ⟨hx0, hx1, hx2⟩, h.nd⟩

end Go.Pu
