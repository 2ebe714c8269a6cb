import Derived.Test.YtlehodoiabaaaaaFQPuDict4S
set_option maxHeartbeats 0
namespace Go.Pu
open Go.Lift

/-- Where a node stands: in a half (its block b, its places c), at a place i, behind l; a points at it. -/
structure Found (r : Reg) (m : Tab) (key : List UInt8) (a : Nat × Nat) (x : Nd) : Prop where
 mem : x ∈ m.all
 key : x.key = key
 at_ : rLd r (some a) = some (.pt (some (x.id, 0)))
 node : ∃ q, r[x.id]? = some (Go.Pu.node x.key x.v q)
 place : ∃ b c i l mm, ((b = m.b0 ∧ c = m.c0) ∨ (m.two = true ∧ b = m.b1 ∧ c = m.c1)) ∧ c[i]? = some (l ++ x :: mm) ∧ (l = [] ∧ a = (b, i) ∨ ∃ l' y, l = l' ++ [y] ∧ a = (y.id, 2))

theorem half_seek {r : Reg} {m : Tab} {key : List UInt8} {b i : Nat} {c : List (List Nd)} {a : Nat × Nat} (h : Half r b c) (hi : i < c.length) (hbc : (b = m.b0 ∧ c = m.c0) ∨ (m.two = true ∧ b = m.b1 ∧ c = m.c1)) (hs : seek key (b, i) (c.getD i []) = some a) : ∃ x, Found r m key a x := by
 obtain ⟨l, x, mm, e, hk, hl, hb, hor⟩ := seek_some (h.at hi) hs
 have hc := getD_of hi
 rw [e] at hc
 obtain ⟨p, h1, h2, q, h3, h4⟩ := hb
 subst h2
 refine ⟨x, ?_, hk, h1, ⟨q, h3⟩, b, c, i, l, mm, hbc, hc, hor⟩
 have hm : x ∈ c.flatten := List.mem_flatten.2 ⟨_, List.mem_of_getElem? hc, by simp⟩
 rcases hbc with ⟨_, rfl⟩ | ⟨_, _, rfl⟩
 ·exact List.mem_append_left _ hm
 ·exact List.mem_append_right _ hm

theorem seek_cases {r : Reg} {t n : Nat} {m : Tab} (h : TabAt r t m n) (hm : m.ok) (key : List UInt8) :
  (m.seek key = none ∧ ∀ x, x ∈ m.all → x.key ≠ key) ∨ ∃ a x, m.seek key = some a ∧ Found r m key a x := by
 have hi0 : plc m.seed m.s0 key < m.c0.length := by rw [hm.l0]; exact plc_lt _ _ _
 unfold Tab.seek
 cases e0 : seek key (m.b0, plc m.seed m.s0 key) (m.c0.getD (plc m.seed m.s0 key) []) with
 | some a =>
  obtain ⟨x, hx⟩ := half_seek h.h0 hi0 (.inl ⟨rfl, rfl⟩) e0
  exact .inr ⟨a, x, rfl, hx⟩
 | none =>
  have n0 : ∀ x, x ∈ m.c0.flatten → x.key ≠ key := fun x hx e => by
   obtain ⟨xs, h1, h2⟩ := List.mem_flatten.1 hx
   obtain ⟨i, hi⟩ := List.mem_iff_getElem?.1 h1
   have h3 := hm.p0 i xs hi x h2
   rw [e] at h3
   subst h3
   rw [getD_of hi0] at hi
   obtain rfl := Option.some.inj hi
   exact seek_none.1 e0 x h2 e
  by_cases h2 : m.two = true
  ·have hi1 : plc m.seed m.s1 key < m.c1.length := by rw [hm.l1 h2]; exact plc_lt _ _ _
   simp only [h2, if_true]
   cases e1 : seek key (m.b1, plc m.seed m.s1 key) (m.c1.getD (plc m.seed m.s1 key) []) with
   | some a =>
    obtain ⟨x, hx⟩ := half_seek (h.h1 h2) hi1 (.inr ⟨h2, rfl, rfl⟩) e1
    exact .inr ⟨a, x, rfl, hx⟩
   | none =>
    refine .inl ⟨rfl, fun x hx => ?_⟩
    rcases List.mem_append.1 hx with hx | hx
    ·exact n0 x hx
    ·intro e
     obtain ⟨xs, h1, h4⟩ := List.mem_flatten.1 hx
     obtain ⟨i, hi⟩ := List.mem_iff_getElem?.1 h1
     have h3 := hm.p1 i xs hi x h4
     rw [e] at h3
     subst h3
     rw [getD_of hi1] at hi
     obtain rfl := Option.some.inj hi
     exact seek_none.1 e1 x h4 e
  ·have h3 : m.two = false := by simpa using h2
   refine .inl ⟨by rw [h3]; rfl, fun x hx => ?_⟩
   rcases List.mem_append.1 hx with hx | hx
   ·exact n0 x hx
   ·rw [(hm.no1 h3).1] at hx
    cases hx

theorem key_inj {m : Tab} (hm : m.ok) {x y : Nd} (hx : x ∈ m.all) (hy : y ∈ m.all) (e : x.key = y.key) : x = y := by
 have hk := hm.keys
 obtain ⟨i, hi, rfl⟩ := List.mem_iff_getElem.1 hx
 obtain ⟨j, hj, rfl⟩ := List.mem_iff_getElem.1 hy
 have h1 : (m.all.map (·.key))[i]? = (m.all.map (·.key))[j]? := by simp [hi, hj, e]
 have := (List.getElem?_inj (by simpa using hi) hk).1 h1
 subst this
 rfl

/-- A value is turned: every chain. -/
theorem Chain.turnAll {r r' : Reg} {key : List UInt8} {x : Nd} {w : (List UInt8)} (hs : rSto r (some (x.id, 1)) [.tx w] = some r') : ∀ {xs : List Nd} {p : RP}, Chain r p xs → (∀ y, y ∈ xs → (y.key = key ↔ y.id = x.id)) →
  Chain r' p (xs.map fun y => if y.key = key then { y with v := w } else y)
 | [], p, h, _ => h
 | y :: xs, p, ⟨h1, q, h2, h3⟩, hi => by
  obtain ⟨k1, k2, k3, k4⟩ := rsto_one hs
  have ih := Chain.turnAll hs h3 fun z hz => hi z (List.mem_cons_of_mem _ hz)
  have hy := hi y (List.mem_cons_self ..)
  by_cases e : y.key = key
  ·rw [List.map_cons, if_pos e]
   refine ⟨h1, q, ?_, ih⟩
   have e2 := hy.1 e
   have h4 : r[x.id]? = some (Go.Pu.node y.key y.v q) := by rw [← e2]; exact h2
   have h5 := (k4 _ h4).1
   show r'[y.id]? = _
   rw [e2]
   exact h5
  ·rw [List.map_cons, if_neg e]
   exact ⟨h1, q, (k2 _ (fun e2 => e (hy.2 e2))).trans h2, ih⟩

theorem setv_eq {r r' : Reg} {t n : Nat} {m : Tab} {key : List UInt8} {a : Nat × Nat} {x : Nd} {w : (List UInt8)} (h : TabAt r t m n) (hm : m.ok) (hf : Found r m key a x) (hs : rSto r (some (x.id, 1)) [.tx w] = some r') :
  TabAt r' t (m.setv key w) n ∧ (∀ j, j ≠ x.id → r'[j]? = r[j]?) ∧ r'.length = r.length := by
 obtain ⟨f1, f2, f3, f4, f5⟩ := h.tfree
 obtain ⟨k1, k2, k3, k4⟩ := rsto_one hs
 have hiff : ∀ y, y ∈ m.all → (y.key = key ↔ y.id = x.id) := fun y hy => by
  constructor
  ·intro e
   rw [key_inj hm hy hf.mem (e.trans hf.key.symm)]
  ·intro e
   obtain ⟨i, hi, rfl⟩ := List.mem_iff_getElem.1 hy
   obtain ⟨j, hj, e2⟩ := List.mem_iff_getElem.1 hf.mem
   have h1 : (ids m.all)[i]? = (ids m.all)[j]? := by simp [ids, hi, hj, e, e2]
   have := (List.getElem?_inj (by simpa [ids] using hi) f5).1 h1
   subst this
   rw [e2]; exact hf.key
 have half : ∀ {b : Nat} {c : List (List Nd)}, Half r b c → b ∈ m.blocks → (∀ y, y ∈ c.flatten → y ∈ m.all) → Half r' b (c.map (List.map fun y => if y.key = key then { y with v := w } else y)) := by
  intro b c hh hb hc
  obtain ⟨⟨cs, h1, h2⟩, h3⟩ := hh
  have hbx : b ≠ x.id := fun e => f3 b hb (e ▸ mem_ids hf.mem)
  refine ⟨⟨cs, (k2 b hbx).trans h1, by rw [List.length_map]; exact h2⟩, fun i xs hi => ?_⟩
  rw [List.getElem?_map] at hi
  obtain ⟨ys, h4, rfl⟩ := Option.map_eq_some_iff.1 hi
  obtain ⟨p, h5, h6⟩ := h3 i ys h4
  refine ⟨p, (rld_frame (a := (b, i)) (k2 b hbx)).trans h5, h6.turnAll hs fun y hy => hiff y (hc y (List.mem_flatten.2 ⟨_, List.mem_of_getElem? h4, hy⟩))⟩
 have hids : ids (m.setv key w).all = ids m.all := by
  rw [setv_all]
  unfold ids
  rw [List.map_map]
  refine List.map_congr_left fun y _ => ?_
  show (if y.key = key then { y with v := w } else y : Nd).id = y.id
  split <;> rfl
 refine ⟨⟨(k2 t (fun e => f2 (e ▸ mem_ids hf.mem))).trans h.tab, half h.h0 (show m.b0 ∈ m.blocks by simp [Tab.blocks]) fun y hy => List.mem_append_left _ hy, fun h2 => half (h.h1 h2) (show m.b1 ∈ m.blocks by have : m.two = true := h2; simp [Tab.blocks, this]) fun y hy => List.mem_append_right _ hy, ?_⟩, k2, k3⟩
 show (t :: m.blocks ++ ids (m.setv key w).all).Nodup
 rw [hids]
 exact h.nd

theorem filter_self {key : List UInt8} {xs : List Nd} (h : ∀ y, y ∈ xs → y.key ≠ key) : xs.filter (fun x => !decide (x.key = key)) = xs :=
 List.filter_eq_self.2 fun y hy => by simp [h y hy]

theorem del_eq {r r' : Reg} {t n : Nat} {m : Tab} {key : List UInt8} {a : Nat × Nat} {x : Nd} {q : RP} (h : TabAt r t m n) (hm : m.ok) (hf : Found r m key a x) (hx : r[x.id]? = some (node x.key x.v q)) (hs : rSto r (some a) [.pt q] = some r') :
  TabAt r' t (m.del key) n ∧ Ext (m.foot t) r r' ∧ r'.length = r.length := by
 obtain ⟨f1, f2, f3, f4, f5⟩ := h.tfree
 obtain ⟨k1, k2, k3, k4⟩ := rsto_one hs
 obtain ⟨b, c, i, l, mm, hbc, hc, hor⟩ := hf.place
 have hcm : ∀ y, y ∈ c.flatten → y ∈ m.all := fun y hy => by
  rcases hbc with ⟨_, rfl⟩ | ⟨_, _, rfl⟩
  ·exact List.mem_append_left _ hy
  ·exact List.mem_append_right _ hy
 have hb : b ∈ m.blocks := by
  rcases hbc with ⟨rfl, _⟩ | ⟨h2, rfl, _⟩
  ·simp [Tab.blocks]
  ·simp [Tab.blocks, h2]
 have hci : ∀ y, y ∈ l ++ x :: mm → y ∈ c.flatten := fun y hy => List.mem_flatten.2 ⟨_, List.mem_of_getElem? hc, hy⟩
 have hlm : ∀ y, y ∈ l → y ∈ m.all := fun y hy => hcm y (hci y (List.mem_append_left _ hy))
 -- the cell that is written
 have ha : a.1 = b ∧ a = (b, i) ∧ l = [] ∨ ∃ l' y, l = l' ++ [y] ∧ a = (y.id, 2) := by
  rcases hor with ⟨e1, e2⟩ | h1
  ·exact .inl ⟨by rw [e2], e2, e1⟩
  ·exact .inr h1
 have hafoot : a.1 ∈ m.foot t := by
  rcases ha with ⟨e, _⟩ | ⟨l', y, e1, e2⟩
  ·rw [e]; exact List.mem_append_left _ (List.mem_cons_of_mem _ hb)
  ·rw [e2]; exact List.mem_append_right _ (mem_ids (hlm y (by rw [e1]; simp)))
 have hat : a.1 ≠ t := by
  rcases ha with ⟨e, _⟩ | ⟨l', y, e1, e2⟩
  ·rw [e]; exact fun e => f1 (e ▸ hb)
  ·rw [e2]; exact fun e => f2 (by rw [← e]; exact mem_ids (hlm y (by rw [e1]; simp)))
 have hflat : ∀ {c' : List (List Nd)}, (c' = m.c0 ∨ c' = m.c1) → (ids c'.flatten).Nodup := by
  intro c' hc'
  have : ids m.all = ids m.c0.flatten ++ ids m.c1.flatten := ids_append _ _
  rw [this] at f5
  rcases hc' with rfl | rfl
  ·exact (List.nodup_append.1 f5).1
  ·exact (List.nodup_append.1 f5).2.1
 have hcc : c = m.c0 ∨ c = m.c1 := by
  rcases hbc with ⟨_, e⟩ | ⟨_, _, e⟩
  ·exact .inl e
  ·exact .inr e
 have ends : ∀ {c' : List (List Nd)} {j : Nat} {xs : List Nd}, c'[j]? = some xs → ∃ l1 l2, c' = l1 ++ xs :: l2 ∧ l1.length = j := by
  intro c' j xs hj
  have hlt := (List.getElem?_eq_some_iff.1 hj).1
  refine ⟨c'.take j, c'.drop (j + 1), ?_, by simp; omega⟩
  have := List.getElem_cons_drop (as := c') (i := j) hlt
  rw [(List.getElem?_eq_some_iff.1 hj).2] at this
  rw [this, List.take_append_drop]
 have chnd : (ids (l ++ x :: mm)).Nodup := by
  obtain ⟨l1, l2, e, _⟩ := ends hc
  have := hflat hcc
  rw [e, List.flatten_append, List.flatten_cons, ids_append, ids_append] at this
  exact (List.nodup_append.1 (List.nodup_append.1 this).2.1).1
 have others : ∀ y, y ∈ m.all → y ≠ x → y.key ≠ key := fun y hy hne e => hne (key_inj hm hy hf.mem (e.trans hf.key.symm))
 have same : ∀ {z : Nd} {b' : Nat} {c' : List (List Nd)} {j : Nat} {ys : List Nd}, c'[j]? = some ys → ((b' = m.b0 ∧ c' = m.c0) ∨ (m.two = true ∧ b' = m.b1 ∧ c' = m.c1)) → z ∈ ys → z ∈ l ++ x :: mm → b' = b ∧ c' = c ∧ j = i := by
  intro z b' c' j ys h4 hbc' hxy hz
  have hij : ∀ {i j : Nat} {xs ys : List Nd} {d : List (List Nd)}, (ids d.flatten).Nodup → d[i]? = some xs → d[j]? = some ys → z ∈ xs → z ∈ ys → i = j := by
   intro i j xs ys d hd hi hj hx1 hx2
   obtain ⟨l1, l2, e, el⟩ := ends hi
   by_cases hlt : j < i
   ·exfalso
    rw [e, List.getElem?_append_left (by omega)] at hj
    rw [e, List.flatten_append, List.flatten_cons, ids_append, ids_append] at hd
    exact (List.nodup_append.1 hd).2.2 z.id (mem_ids (List.mem_flatten.2 ⟨_, List.mem_of_getElem? hj, hx2⟩)) z.id (List.mem_append_left _ (mem_ids hx1)) rfl
   ·by_cases he : i = j
    ·exact he
    ·exfalso
     rw [e, List.getElem?_append_right (by omega)] at hj
     obtain ⟨d', hd'⟩ : ∃ d', j - l1.length = d' + 1 := ⟨j - l1.length - 1, by omega⟩
     rw [hd', List.getElem?_cons_succ] at hj
     rw [e, List.flatten_append, List.flatten_cons, ids_append, ids_append] at hd
     exact (List.nodup_append.1 (List.nodup_append.1 hd).2.1).2.2 z.id (mem_ids hx1) z.id (mem_ids (List.mem_flatten.2 ⟨_, List.mem_of_getElem? hj, hx2⟩)) rfl
  have hcross : z ∈ m.c0.flatten → z ∈ m.c1.flatten → False := fun h5 h6 => by
   have : ids m.all = ids m.c0.flatten ++ ids m.c1.flatten := ids_append _ _
   rw [this] at f5
   exact (List.nodup_append.1 f5).2.2 z.id (mem_ids h5) z.id (mem_ids h6) rfl
  have hxc : z ∈ c.flatten := hci z hz
  have hzc' : z ∈ c'.flatten := List.mem_flatten.2 ⟨_, List.mem_of_getElem? h4, hxy⟩
  rcases hbc with ⟨rfl, rfl⟩ | ⟨h7, rfl, rfl⟩ <;> rcases hbc' with ⟨rfl, rfl⟩ | ⟨h8, rfl, rfl⟩
  ·exact ⟨rfl, rfl, hij (hflat (.inl rfl)) h4 hc hxy hz⟩
  ·exact (hcross hxc hzc').elim
  ·exact (hcross hzc' hxc).elim
  ·exact ⟨rfl, rfl, hij (hflat (.inr rfl)) h4 hc hxy hz⟩
 -- each half
 have half : ∀ {b' : Nat} {c' : List (List Nd)}, Half r b' c' → ((b' = m.b0 ∧ c' = m.c0) ∨ (m.two = true ∧ b' = m.b1 ∧ c' = m.c1)) → Half r' b' (c'.map (List.filter fun x => !decide (x.key = key))) := by
  intro b' c' hh hbc'
  have hb' : b' ∈ m.blocks := by
   rcases hbc' with ⟨rfl, _⟩ | ⟨h2, rfl, _⟩
   ·simp [Tab.blocks]
   ·simp [Tab.blocks, h2]
  have hcm' : ∀ y, y ∈ c'.flatten → y ∈ m.all := fun y hy => by
   rcases hbc' with ⟨_, rfl⟩ | ⟨_, _, rfl⟩
   ·exact List.mem_append_left _ hy
   ·exact List.mem_append_right _ hy
  obtain ⟨⟨cs, h1, h2⟩, h3⟩ := hh
  refine ⟨?_, fun j xs hj => ?_⟩
  ·by_cases e : b' = a.1
   ·rw [e] at h1 ⊢
    exact ⟨_, (k4 cs h1).1, by rw [List.length_set, List.length_map]; exact h2⟩
   ·exact ⟨cs, (k2 b' e).trans h1, by rw [List.length_map]; exact h2⟩
  ·rw [List.getElem?_map] at hj
   obtain ⟨ys, h4, rfl⟩ := Option.map_eq_some_iff.1 hj
   have hys : ∀ y, y ∈ ys → y ∈ c'.flatten := fun y hy => List.mem_flatten.2 ⟨_, List.mem_of_getElem? h4, hy⟩
   by_cases hxy : x ∈ ys
   ·-- its own chain
    have hsame : b' = b ∧ c' = c ∧ j = i := by
     exact same h4 hbc' hxy (by simp)
    obtain ⟨rfl, rfl, rfl⟩ := hsame
    obtain rfl : ys = l ++ x :: mm := Option.some.inj (h4.symm.trans hc)
    have hun := Begins.unlink (key := key) (h3 j _ h4) chnd (fun hj2 => by
     obtain ⟨y, hy, e⟩ := List.mem_map.1 hj2
     exact f3 b' hb' (by rw [← show y.id = b' from e]; exact mem_ids (hcm' y (hys y hy)))) hor hx hs
    have hne : ∀ y, y ∈ l ++ mm → y.key ≠ key := fun y hy => by
     refine others y (hcm' y (hys y ?_)) fun e => ?_
     ·rcases List.mem_append.1 hy with hy | hy
      ·exact List.mem_append_left _ hy
      ·exact List.mem_append_right _ (List.mem_cons_of_mem _ hy)
     ·subst e
      rw [ids_append] at chnd
      rcases List.mem_append.1 hy with hy | hy
      ·exact (List.nodup_append.1 chnd).2.2 y.id (mem_ids hy) y.id (mem_ids (List.mem_cons_self ..)) rfl
      ·have := (List.nodup_append.1 chnd).2.1
       simp only [ids, List.map_cons, List.nodup_cons] at this
       exact this.1 (mem_ids hy)
    have hfil : (l ++ x :: mm).filter (fun x => !decide (x.key = key)) = l ++ mm := by
     rw [List.filter_append, List.filter_cons, if_neg (by simp [hf.key]), ← List.filter_append]
     exact filter_self hne
    rw [hfil]
    exact hun
   ·have hne : ∀ y, y ∈ ys → y.key ≠ key := fun y hy => others y (hcm' y (hys y hy)) fun e => hxy (e ▸ hy)
    rw [filter_self hne]
    have hcell : (b', j) ≠ a := by
     intro e
     rcases ha with ⟨_, e1, e2⟩ | ⟨l', y, e1, e2⟩
     ·rw [e1] at e
      injection e with e3 e4
      subst e3 e4
      have hc2 : c' = c := by
       rcases hbc with ⟨g1, g2⟩ | ⟨g0, g1, g2⟩ <;> rcases hbc' with ⟨g3, g4⟩ | ⟨g5, g3, g4⟩
       ·rw [g2, g4]
       ·exfalso; rw [g3] at g1; simp [Tab.blocks, g5, g1] at f4
       ·exfalso; rw [g3] at g1; simp [Tab.blocks, g0, g1] at f4
       ·rw [g2, g4]
      subst hc2
      rw [h4] at hc
      obtain rfl := Option.some.inj hc
      exact hxy (by simp)
     ·rw [e2] at e
      injection e with e3 e4
      exact f3 b' hb' (by rw [e3]; exact mem_ids (hlm y (by rw [e1]; simp)))
    refine (h3 j ys h4).frame (by rw [k1, if_neg hcell]) fun y hy => k2 _ fun e => ?_
    rcases ha with ⟨e1, _⟩ | ⟨l', z, e1, e2⟩
    ·exact f3 b hb (by rw [← e1, ← e]; exact mem_ids (hcm' y (hys y hy)))
    ·rw [e2] at e
     have hyz : y = z := by
      obtain ⟨i1, hi1, g1⟩ := List.mem_iff_getElem.1 (hcm' y (hys y hy))
      obtain ⟨j1, hj1, g2⟩ := List.mem_iff_getElem.1 (hlm z (by rw [e1]; simp))
      have h9 : (ids m.all)[i1]? = (ids m.all)[j1]? := by simp [ids, hi1, hj1, g1, g2, show y.id = z.id from e]
      have := (List.getElem?_inj (by simpa [ids] using hi1) f5).1 h9
      subst this
      rw [← g1, ← g2]
     subst hyz
     obtain ⟨rfl, rfl, rfl⟩ := same h4 hbc' hy (by rw [e1]; simp)
     obtain rfl : ys = l ++ x :: mm := Option.some.inj (h4.symm.trans hc)
     exact hxy (by simp)
 have hsubl : ((m.del key).foot t).Sublist (m.foot t) := by
  show (t :: m.blocks ++ ids (m.del key).all).Sublist (t :: m.blocks ++ ids m.all)
  rw [del_all]
  exact List.Sublist.append (List.Sublist.refl _) (List.filter_sublist.map _)
 refine ⟨⟨(k2 t (fun e => hat e.symm)).trans h.tab, half h.h0 (.inl ⟨rfl, rfl⟩), fun h2 => half (h.h1 h2) (.inr ⟨h2, rfl, rfl⟩), hsubl.nodup h.nd⟩, ⟨by rw [k3]; exact Nat.le_refl _, fun j _ hj => k2 j fun e => hj (by rw [e]; exact hafoot)⟩, k3⟩

end Go.Pu
