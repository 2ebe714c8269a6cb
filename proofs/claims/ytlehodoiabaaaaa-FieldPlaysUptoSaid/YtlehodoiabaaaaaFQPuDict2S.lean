import Derived.Test.YtlehodoiabaaaaaFQPuDict1S
set_option maxHeartbeats 0
namespace Go.Pu
open Go.Lift

theorem flatten_set {α : Type} : ∀ {c : List (List α)} {i : Nat} {l l' : List α}, c[i]? = some l → ((c.set i l').flatten ++ l).Perm (c.flatten ++ l')
 | [], i, l, l', h => by simp at h
 | x :: c, 0, l, l', h => by
  obtain rfl : x = l := by simpa using h
  simp only [List.set_cons_zero, List.flatten_cons]
  rw [List.append_assoc]
  exact List.perm_append_comm.trans (List.perm_append_comm.append_right _)
 | x :: c, i + 1, l, l', h => by
  simp only [List.set_cons_succ, List.flatten_cons, List.append_assoc]
  exact (flatten_set (c := c) (i := i) (by simpa using h)).append_left x

/-- One more at the front of a place. -/
def pushAt {α : Type} (c : List (List α)) (i : Nat) (x : α) : List (List α) := c.set i (x :: c.getD i [])

theorem pushAt_length {α : Type} (c : List (List α)) (i : Nat) (x : α) : (pushAt c i x).length = c.length := List.length_set

theorem getD_of {α : Type} {c : List (List α)} {i : Nat} (h : i < c.length) : c[i]? = some (c.getD i []) := by
 simp [List.getD, List.getElem?_eq_getElem h]

theorem pushAt_perm {α : Type} {c : List (List α)} {i : Nat} {x : α} (h : i < c.length) : (pushAt c i x).flatten.Perm (x :: c.flatten) := by
 have h1 := flatten_set (l' := x :: c.getD i []) (getD_of h)
 have h2 : (c.flatten ++ (x :: c.getD i [])).Perm ((x :: c.flatten) ++ c.getD i []) := List.perm_middle
 exact (List.perm_append_right_iff _).1 (h1.trans h2)

theorem pushAt_get {α : Type} {c : List (List α)} {i j : Nat} {x : α} {l : List α} (h : (pushAt c i x)[j]? = some l) : (j = i ∧ l = x :: c.getD i []) ∨ (j ≠ i ∧ c[j]? = some l) := by
 unfold pushAt at h
 by_cases e : j = i
 ·subst e
  rw [List.getElem?_set] at h
  split at h
  ·split at h
   ·exact .inl ⟨rfl, (Option.some.inj h).symm⟩
   ·cases h
  ·rename_i h2; exact absurd rfl h2
 ·rw [List.getElem?_set_ne (fun e2 => e e2.symm)] at h
  exact .inr ⟨e, h⟩

theorem pushAt_mem {α : Type} {c : List (List α)} {i j : Nat} {x y : α} {l : List α} (h : (pushAt c i x)[j]? = some l) (hy : y ∈ l) : (j = i ∧ y = x) ∨ ∃ l', c[j]? = some l' ∧ y ∈ l' := by
 rcases pushAt_get h with ⟨rfl, rfl⟩ | ⟨_, h⟩
 ·rcases List.mem_cons.1 hy with rfl | hy
  ·exact .inl ⟨rfl, rfl⟩
  ·refine .inr ⟨_, ?_, hy⟩
   by_cases hj : j < c.length
   ·exact getD_of hj
   ·rw [show c.getD j [] = [] by simp [List.getD, List.getElem?_eq_none (by omega : c.length ≤ j)]] at hy
    cases hy
 ·exact .inr ⟨_, h, hy⟩

def Tab.ins0 (m : Tab) (x : Nd) : Tab := { m with c0 := pushAt m.c0 (plc m.seed m.s0 x.key) x }
def Tab.ins1 (m : Tab) (x : Nd) : Tab := { m with c1 := pushAt m.c1 (plc m.seed m.s1 x.key) x }
def Tab.pour (m : Tab) (l : List Nd) : Tab := l.foldl Tab.ins1 m

theorem plc_lt (seed : Int) (k : Nat) (key : List UInt8) : plc seed k key < 2 ^ k := Nat.mod_lt _ (Nat.pow_pos (by decide))

theorem ins0_all {m : Tab} (hm : m.ok) (x : Nd) : (m.ins0 x).all.Perm (x :: m.all) :=
 (pushAt_perm (by rw [hm.l0]; exact plc_lt _ _ _)).append_right _

theorem ins1_all {m : Tab} (hm : m.ok) (h2 : m.two = true) (x : Nd) : (m.ins1 x).all.Perm (x :: m.all) :=
 ((pushAt_perm (by rw [hm.l1 h2]; exact plc_lt _ _ _)).append_left _).trans List.perm_middle

theorem perm_keys {l l' : List Nd} (h : l.Perm l') : (l.map (·.key)).Nodup ↔ (l'.map (·.key)).Nodup := (h.map _).nodup_iff

theorem ins0_ok {m : Tab} (hm : m.ok) (h2 : m.two = false) {x : Nd} (hx : ∀ y, y ∈ m.all → y.key ≠ x.key) (hl : x.key.length < 1000000) (hf : m.all.length + 1 < 1000000) : (m.ins0 x).ok := by
 have hp := ins0_all hm x
 have hmv := (hm.no1 h2).2.2
 refine ⟨(pushAt_length _ _ _).trans hm.l0, hm.l1, hm.no1, hm.z0, hm.z1, hm.mv, fun i hi => ?_, fun i xs hi y hy => ?_, hm.p1, ?_, fun y hy => ?_, ?_⟩
 ·exact absurd (show i < m.moved from hi) (by omega)
 ·rcases pushAt_mem hi hy with ⟨rfl, rfl⟩ | ⟨l', h1, h3⟩
  ·rfl
  ·exact hm.p0 i l' h1 y h3
 ·rw [perm_keys hp, List.map_cons, List.nodup_cons]
  refine ⟨fun hk => ?_, hm.keys⟩
  obtain ⟨y, hy, e⟩ := List.mem_map.1 hk
  exact hx y hy e
 ·rcases List.mem_cons.1 (hp.mem_iff.1 hy) with rfl | hy
  ·exact hl
  ·exact hm.klen y hy
 ·rw [hp.length_eq]; exact hf

theorem ins1_ok {m : Tab} (hm : m.ok) (h2 : m.two = true) {x : Nd} (hx : ∀ y, y ∈ m.all → y.key ≠ x.key) (hl : x.key.length < 1000000) (hf : m.all.length + 1 < 1000000) : (m.ins1 x).ok := by
 have hp := ins1_all hm h2 x
 refine ⟨hm.l0, fun h => (pushAt_length _ _ _).trans (hm.l1 h), fun h => ?_, hm.z0, hm.z1, hm.mv, hm.low, hm.p0, fun i xs hi y hy => ?_, ?_, fun y hy => ?_, ?_⟩
 ·rw [show (m.ins1 x).two = m.two from rfl, h2] at h; cases h
 ·rcases pushAt_mem hi hy with ⟨rfl, rfl⟩ | ⟨l', h1, h3⟩
  ·rfl
  ·exact hm.p1 i l' h1 y h3
 ·rw [perm_keys hp, List.map_cons, List.nodup_cons]
  refine ⟨fun hk => ?_, hm.keys⟩
  obtain ⟨y, hy, e⟩ := List.mem_map.1 hk
  exact hx y hy e
 ·rcases List.mem_cons.1 (hp.mem_iff.1 hy) with rfl | hy
  ·exact hl
  ·exact hm.klen y hy
 ·rw [hp.length_eq]; exact hf

/-- What a place holds is taken out. -/
def Tab.take (m : Tab) : Tab := { m with c0 := m.c0.set m.moved [] }
def Tab.head (m : Tab) : List Nd := m.c0.getD m.moved []

theorem take_all {m : Tab} (hm : m.ok) : (m.head ++ m.take.all).Perm m.all := by
 have h1 := flatten_set (l' := []) (getD_of (c := m.c0) (i := m.moved) (by rw [hm.l0]; exact hm.mv))
 rw [List.append_nil] at h1
 have h2 : (m.head ++ (m.take.c0.flatten ++ m.c1.flatten)).Perm ((m.take.c0.flatten ++ m.head) ++ m.c1.flatten) := by
  rw [← List.append_assoc]
  exact List.perm_append_comm.append_right _
 exact h2.trans (h1.append_right _)

theorem take_ok {m : Tab} (hm : m.ok) : m.take.ok := by
 have hp := take_all hm
 have hsub : ∀ y, y ∈ m.take.all → y ∈ m.all := fun y hy => hp.mem_iff.1 (List.mem_append_right _ hy)
 have hk := (perm_keys hp).2 hm.keys
 rw [List.map_append] at hk
 refine ⟨List.length_set.trans hm.l0, hm.l1, hm.no1, hm.z0, hm.z1, hm.mv, fun i hi => ?_, fun i xs hi y hy => ?_, hm.p1, (List.nodup_append.1 hk).2.1, fun y hy => hm.klen y (hsub y hy), ?_⟩
 ·show (m.c0.set m.moved [])[i]? = some []
  rw [List.getElem?_set_ne (by have : i < m.moved := hi; omega)]
  exact hm.low i hi
 ·have hi : (m.c0.set m.moved [])[i]? = some xs := hi
  by_cases e : m.moved = i
  ·subst e
   rw [List.getElem?_set_self (by rw [hm.l0]; exact hm.mv)] at hi
   obtain rfl := Option.some.inj hi
   cases hy
  ·rw [List.getElem?_set_ne e] at hi
   exact hm.p0 i xs hi y hy
 ·have := hp.length_eq
  rw [List.length_append] at this
  have := hm.few
  omega

theorem pour_ok : ∀ {l : List Nd} {m : Tab}, m.ok → m.two = true → ((l ++ m.all).map (·.key)).Nodup → (∀ x, x ∈ l → x.key.length < 1000000) → l.length + m.all.length < 1000000 →
  (m.pour l).ok ∧ (m.pour l).all.Perm (l ++ m.all)
 | [], m, hm, _, _, _, _ => ⟨hm, List.Perm.refl _⟩
 | x :: l, m, hm, h2, hk, hl, hf => by
  simp only [List.cons_append, List.map_cons, List.nodup_cons] at hk
  simp only [List.length_cons] at hf
  have h1 := ins1_ok hm h2 (x := x) (fun y hy e => hk.1 (by rw [← e]; exact List.mem_map.2 ⟨y, List.mem_append_right _ hy, rfl⟩)) (hl x (List.mem_cons_self ..)) (by omega)
  have hp := ins1_all hm h2 x
  have hp2 : (l ++ (m.ins1 x).all).Perm (x :: (l ++ m.all)) := (hp.append_left l).trans List.perm_middle
  obtain ⟨h3, h4⟩ := pour_ok (l := l) h1 h2 (by rw [perm_keys hp2, List.map_cons, List.nodup_cons]; exact hk) (fun y hy => hl y (List.mem_cons_of_mem _ hy)) (by rw [hp.length_eq]; simp only [List.length_cons]; omega)
  exact ⟨h3, h4.trans hp2⟩

theorem pour_same : ∀ {l : List Nd} {m : Tab}, (m.pour l).seed = m.seed ∧ (m.pour l).s0 = m.s0 ∧ (m.pour l).b0 = m.b0 ∧ (m.pour l).c0 = m.c0 ∧ (m.pour l).s1 = m.s1 ∧ (m.pour l).b1 = m.b1 ∧ (m.pour l).moved = m.moved ∧ (m.pour l).two = m.two
 | [], m => ⟨rfl, rfl, rfl, rfl, rfl, rfl, rfl, rfl⟩
 | x :: l, m => pour_same (l := l) (m := m.ins1 x)

/-- The next place; the new half alone, if that was the last one. -/
def Tab.next (m : Tab) : Tab :=
 if m.moved + 1 = 2 ^ m.s0 then { seed := m.seed, s0 := m.s1, b0 := m.b1, c0 := m.c1, s1 := 0, b1 := 0, c1 := [], moved := 0, two := false } else { m with moved := m.moved + 1 }

theorem next_all {m : Tab} (hm : m.ok) (he : ∀ i, i ≤ m.moved → m.c0[i]? = some []) : m.next.all = m.all := by
 unfold Tab.next
 split
 ·rename_i h
  have h0 : m.c0.flatten = [] := by
   rw [List.flatten_eq_nil_iff]
   intro l hl
   obtain ⟨i, hi⟩ := List.mem_iff_getElem?.1 hl
   have hlt := (List.getElem?_eq_some_iff.1 hi).1
   rw [he i (by rw [hm.l0] at hlt; omega)] at hi
   exact (Option.some.inj hi).symm
  simp [Tab.all, h0]
 ·rfl

theorem next_ok {m : Tab} (hm : m.ok) (h2 : m.two = true) (he : ∀ i, i ≤ m.moved → m.c0[i]? = some []) : m.next.ok := by
 have ha := next_all hm he
 have hk := hm.keys
 have hl := hm.klen
 have hf := hm.few
 rw [← ha] at hk hl hf
 unfold Tab.next at hk hl hf ⊢
 split
 ·rename_i h
  rw [if_pos h] at hk hl hf
  refine ⟨hm.l1 h2, (fun h => by cases h), fun _ => ⟨rfl, rfl, rfl⟩, ⟨(hm.z1 h2).1, (hm.z1 h2).2.1⟩, (fun h => by cases h), Nat.pow_pos (by decide), fun i hi => absurd hi (Nat.not_lt_zero _), hm.p1, fun i xs hi => (by simp at hi), hk, hl, hf⟩
 ·rename_i h
  have hmv := hm.mv
  refine ⟨hm.l0, hm.l1, fun h => (by rw [show m.two = false from h] at h2; cases h2), hm.z0, hm.z1, (by show m.moved + 1 < 2 ^ m.s0; omega), fun i hi => he i (by have : i < m.moved + 1 := hi; omega), hm.p0, hm.p1, hm.keys, hm.klen, hm.few⟩

/-- A step. -/
def Tab.step (m : Tab) : Tab := if m.two then (m.take.pour m.head).next else m

theorem step_ok {m : Tab} (hm : m.ok) : m.step.ok ∧ m.step.all.Perm m.all := by
 unfold Tab.step
 split
 ·rename_i h2
  have ht := take_all hm
  have hk := (perm_keys ht).2 hm.keys
  have hf := hm.few
  obtain ⟨h3, h4⟩ := pour_ok (l := m.head) (take_ok hm) h2 hk (fun x hx => hm.klen x (ht.mem_iff.1 (List.mem_append_left _ hx))) (by have := ht.length_eq; rw [List.length_append] at this; omega)
  obtain ⟨e1, e2, e3, e4, e5, e6, e7, e8⟩ := pour_same (l := m.head) (m := m.take)
  have he : ∀ i, i ≤ (m.take.pour m.head).moved → (m.take.pour m.head).c0[i]? = some [] := fun i hi => by
   rw [e7] at hi
   rw [e4]
   show (m.c0.set m.moved [])[i]? = some []
   by_cases e : m.moved = i
   ·subst e
    exact List.getElem?_set_self (by rw [hm.l0]; exact hm.mv)
   ·rw [List.getElem?_set_ne e]
    exact hm.low i (by have : i ≤ m.moved := hi; omega)
  exact ⟨next_ok h3 (e8.trans h2) he, by rw [next_all h3 he]; exact h4.trans ht⟩
 ·exact ⟨hm, List.Perm.refl _⟩

/-- The table is parted. -/
def Tab.part (m : Tab) (b s : Nat) : Tab := { m with s1 := s, b1 := b, c1 := List.replicate (2 ^ s) [], moved := 0, two := true }

theorem flatten_replicate_nil {α : Type} (n : Nat) : (List.replicate n ([] : List α)).flatten = [] := by
 induction n with
 | zero => rfl
 | succ n ih => simp [List.replicate_succ, ih]

theorem part_all {m : Tab} (hm : m.ok) (h2 : m.two = false) (b s : Nat) : (m.part b s).all = m.all := by
 unfold Tab.all Tab.part
 rw [(hm.no1 h2).1, flatten_replicate_nil]
 rfl

theorem part_ok {m : Tab} (hm : m.ok) (h2 : m.two = false) (b : Nat) {s : Nat} (hs : 2 ≤ s ∧ s ≤ 16 ∧ (s = m.s0 + 1 ∨ m.s0 = s + 1)) : (m.part b s).ok := by
 have ha := part_all hm h2 b s
 refine ⟨hm.l0, fun _ => List.length_replicate, (fun h => by cases h), hm.z0, fun _ => hs, Nat.pow_pos (by decide), fun i hi => absurd hi (Nat.not_lt_zero _), hm.p0, fun i xs hi y hy => ?_, by rw [ha]; exact hm.keys, by rw [ha]; exact hm.klen, by rw [ha]; exact hm.few⟩
 have : xs = [] := List.eq_of_mem_replicate (List.mem_of_getElem? (show (List.replicate (2 ^ s) [])[i]? = some xs from hi))
 subst this
 cases hy

/-- Values are turned, nodes let go. -/
def Tab.setv (m : Tab) (key : List UInt8) (v : (List UInt8)) : Tab :=
 let f := List.map (List.map fun x : Nd => if x.key = key then { x with v := v } else x)
 { m with c0 := f m.c0, c1 := f m.c1 }
def Tab.del (m : Tab) (key : List UInt8) : Tab :=
 let f := List.map (List.filter fun x : Nd => !decide (x.key = key))
 { m with c0 := f m.c0, c1 := f m.c1 }

theorem flatten_mapmap {α β : Type} (f : α → β) (c : List (List α)) : (c.map (List.map f)).flatten = c.flatten.map f := by
 induction c with
 | nil => rfl
 | cons x c ih => rw [List.map_cons, List.flatten_cons, List.flatten_cons, List.map_append, ih]
theorem flatten_mapfilter {α : Type} (f : α → Bool) (c : List (List α)) : (c.map (List.filter f)).flatten = c.flatten.filter f := by
 induction c with
 | nil => rfl
 | cons x c ih => rw [List.map_cons, List.flatten_cons, List.flatten_cons, List.filter_append, ih]

theorem setv_all (m : Tab) (key : List UInt8) (v : (List UInt8)) : (m.setv key v).all = m.all.map fun x => if x.key = key then { x with v := v } else x := by
 show (List.map (List.map _) m.c0).flatten ++ (List.map (List.map _) m.c1).flatten = _
 rw [flatten_mapmap, flatten_mapmap, ← List.map_append]
 rfl
theorem del_all (m : Tab) (key : List UInt8) : (m.del key).all = m.all.filter fun x => !decide (x.key = key) := by
 show (List.map (List.filter _) m.c0).flatten ++ (List.map (List.filter _) m.c1).flatten = _
 rw [flatten_mapfilter, flatten_mapfilter, ← List.filter_append]
 rfl

theorem setv_ok {m : Tab} (hm : m.ok) (key : List UInt8) (v : (List UInt8)) : (m.setv key v).ok := by
 have hkey : ∀ x : Nd, (if x.key = key then { x with v := v } else x : Nd).key = x.key := fun x => by split <;> rfl
 have hk : ((m.setv key v).all.map (·.key)) = m.all.map (·.key) := by
  rw [setv_all, List.map_map]
  exact List.map_congr_left fun x _ => hkey x
 have get : ∀ {c : List (List Nd)} {i : Nat} {xs : List Nd}, (c.map (List.map fun x : Nd => if x.key = key then { x with v := v } else x))[i]? = some xs → ∀ y, y ∈ xs → ∃ ys z, c[i]? = some ys ∧ z ∈ ys ∧ y.key = z.key := by
  intro c i xs h y hy
  rw [List.getElem?_map] at h
  obtain ⟨ys, h1, rfl⟩ := Option.map_eq_some_iff.1 h
  obtain ⟨z, hz, rfl⟩ := List.mem_map.1 hy
  exact ⟨ys, z, h1, hz, hkey z⟩
 refine ⟨(by simp [Tab.setv, hm.l0]), fun h => (by simpa [Tab.setv] using hm.l1 h), fun h => ?_, hm.z0, hm.z1, hm.mv, fun i hi => ?_, fun i xs hi y hy => ?_, fun i xs hi y hy => ?_, by rw [hk]; exact hm.keys, fun y hy => ?_, ?_⟩
 ·obtain ⟨h1, h3⟩ := hm.no1 h
  exact ⟨by simp [Tab.setv, h1], h3⟩
 ·show (m.c0.map _)[i]? = some []
  rw [List.getElem?_map, hm.low i hi]; rfl
 ·obtain ⟨ys, z, h1, h3, e⟩ := get hi y hy
  rw [e]; exact hm.p0 i ys h1 z h3
 ·obtain ⟨ys, z, h1, h3, e⟩ := get hi y hy
  rw [e]; exact hm.p1 i ys h1 z h3
 ·rw [setv_all] at hy
  obtain ⟨z, hz, rfl⟩ := List.mem_map.1 hy
  rw [hkey]; exact hm.klen z hz
 ·rw [setv_all, List.length_map]; exact hm.few

theorem del_ok {m : Tab} (hm : m.ok) (key : List UInt8) : (m.del key).ok := by
 have get : ∀ {c : List (List Nd)} {i : Nat} {xs : List Nd}, (c.map (List.filter fun x : Nd => !decide (x.key = key)))[i]? = some xs → ∀ y, y ∈ xs → ∃ ys, c[i]? = some ys ∧ y ∈ ys := by
  intro c i xs h y hy
  rw [List.getElem?_map] at h
  obtain ⟨ys, h1, rfl⟩ := Option.map_eq_some_iff.1 h
  exact ⟨ys, h1, (List.mem_filter.1 hy).1⟩
 refine ⟨(by simp [Tab.del, hm.l0]), fun h => (by simpa [Tab.del] using hm.l1 h), fun h => ?_, hm.z0, hm.z1, hm.mv, fun i hi => ?_, fun i xs hi y hy => ?_, fun i xs hi y hy => ?_, ?_, fun y hy => ?_, ?_⟩
 ·obtain ⟨h1, h3⟩ := hm.no1 h
  exact ⟨by simp [Tab.del, h1], h3⟩
 ·show (m.c0.map _)[i]? = some []
  rw [List.getElem?_map, hm.low i hi]; rfl
 ·obtain ⟨ys, h1, h3⟩ := get hi y hy
  exact hm.p0 i ys h1 y h3
 ·obtain ⟨ys, h1, h3⟩ := get hi y hy
  exact hm.p1 i ys h1 y h3
 ·rw [del_all]
  exact hm.keys.sublist (List.filter_sublist.map _)
 ·rw [del_all] at hy
  exact hm.klen y (List.mem_filter.1 hy).1
 ·rw [del_all]
  exact Nat.lt_of_le_of_lt (List.length_filter_le _ _) hm.few

end Go.Pu
