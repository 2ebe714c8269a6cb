import Derived.Test.YtlehodoiabaaaaaFQPuDict3S
set_option maxHeartbeats 0
namespace Go.Pu
open Go.Lift

theorem TabAt.tfree {r : Reg} {t n : Nat} {m : Tab} (h : TabAt r t m n) : t ∉ m.blocks ∧ t ∉ ids m.all ∧ (∀ b, b ∈ m.blocks → b ∉ ids m.all) ∧ m.blocks.Nodup ∧ (ids m.all).Nodup := by
 have hnd := h.nd
 simp only [Tab.foot, List.cons_append, List.nodup_cons, List.nodup_append, List.mem_append, not_or] at hnd
 exact ⟨hnd.1.1, hnd.1.2, fun b hb hj => hnd.2.2.2 b hb b hj rfl, hnd.2.1, hnd.2.2.1⟩

/-- Only the table's own cells are written. -/
theorem TabAt.other {r r' : Reg} {t n : Nat} {m : Tab} (h : TabAt r t m n) (hr : ∀ j, j ≠ t → r'[j]? = r[j]?) : Half r' m.b0 m.c0 ∧ (m.two = true → Half r' m.b1 m.c1) := by
 obtain ⟨f1, f2, f3, f4, f5⟩ := h.tfree
 have hall : ∀ x, x ∈ m.all → r'[x.id]? = r[x.id]? := fun x hx => hr _ fun e => f2 (e ▸ mem_ids hx)
 exact ⟨h.h0.frame (hr _ fun e => f1 (by simp [Tab.blocks, ← e])) fun x hx => hall x (List.mem_append_left _ hx), fun h2 => (h.h1 h2).frame (hr _ fun e => f1 (by simp [Tab.blocks, h2, ← e])) fun x hx => hall x (List.mem_append_right _ hx)⟩

theorem TabAt.retab {r r' : Reg} {t n n' : Nat} {m m' : Tab} (h : TabAt r t m n) (hr : ∀ j, j ≠ t → r'[j]? = r[j]?) (ht : r'[t]? = some (m'.cells n')) (e1 : m'.b0 = m.b0) (e2 : m'.c0 = m.c0) (e3 : m'.b1 = m.b1) (e4 : m'.c1 = m.c1) (e5 : m'.two = m.two) : TabAt r' t m' n' := by
 obtain ⟨h0, h1⟩ := h.other hr
 refine ⟨ht, by rw [e1, e2]; exact h0, fun h2 => by rw [e3, e4]; exact h1 (by rw [← e5]; exact h2), ?_⟩
 have : m'.foot t = m.foot t := by simp [Tab.foot, Tab.blocks, Tab.all, e1, e2, e3, e4, e5]
 rw [this]
 exact h.nd

theorem foot_ins1 {m : Tab} (hm : m.ok) (h2 : m.two = true) (t : Nat) (x : Nd) : ((m.ins1 x).foot t).Perm (x.id :: m.foot t) :=
 ((ids_perm (ins1_all hm h2 x)).append_left (t :: m.blocks)).trans List.perm_middle

/-- The nodes of a chain are put into the new half. -/
theorem pour_eq {t n : Nat} : ∀ {l : List Nd} {p : RP} {r : Reg} {m : Tab}, Chain r p l → TabAt r t m n → m.ok → m.two = true → (ids l ++ m.foot t).Nodup → ((l ++ m.all).map (·.key)).Nodup → (∀ x, x ∈ l → x.key.length < 1000000) → l.length + m.all.length < 1000000 →
  ∃ r', dict.Table_string.step.loop0 (some (t, 0)) ⟨p, r⟩ = some r' ∧ TabAt r' t (m.pour l) n ∧ (∀ j, j ∉ ids l → j ≠ m.b1 → r'[j]? = r[j]?) ∧ r'.length = r.length
 | [], p, r, m, hc, h, hm, h2, hn, hk, hl, hf => by
  obtain rfl : p = none := hc
  exact ⟨r, whileO_ret rfl, h, fun _ _ _ => rfl, rfl⟩
 | x :: l, p, r, m, hc, h, hm, h2, hn, hk, hl, hf => by
  obtain ⟨rfl, q, hx, hcq⟩ := hc
  simp only [ids, List.map_cons, List.cons_append, List.nodup_cons, List.mem_append, not_or] at hn
  simp only [List.cons_append, List.map_cons, List.nodup_cons] at hk
  simp only [List.length_cons] at hf
  have hxl := hl x (List.mem_cons_self ..)
  have hkf : ∀ y, y ∈ m.all → y.key ≠ x.key := fun y hy e => hk.1 (by rw [← e]; exact List.mem_map.2 ⟨y, List.mem_append_right _ hy, rfl⟩)
  obtain ⟨r1, e1, h1, f1, len1⟩ := front1_eq h hm h2 hxl hx hn.1.2
  have hm1 := ins1_ok hm h2 (x := x) hkf hxl (by omega)
  have hp := ins1_all hm h2 x
  have hb1 : m.b1 ∈ m.foot t := by simp [Tab.foot, Tab.blocks, h2]
  have hdis : ∀ y, y ∈ l → y.id ∉ m.foot t := fun y hy hj => (List.nodup_append.1 hn.2).2.2 _ (mem_ids hy) _ hj rfl
  have hc1 : Chain r1 q l := hcq.frame fun y hy => f1 _ (fun e => hn.1.1 (e ▸ mem_ids hy)) (fun e => hdis y hy (e ▸ hb1))
  have hn1 : (ids l ++ (m.ins1 x).foot t).Nodup := by
   have : (ids l ++ (m.ins1 x).foot t).Perm (x.id :: (ids l ++ m.foot t)) := ((foot_ins1 hm h2 t x).append_left _).trans List.perm_middle
   rw [this.nodup_iff, List.nodup_cons]
   exact ⟨by simp only [List.mem_append, not_or]; exact hn.1, hn.2⟩
  have hp2 : (l ++ (m.ins1 x).all).Perm (x :: (l ++ m.all)) := (hp.append_left l).trans List.perm_middle
  obtain ⟨r2, e2, h3, f2, len2⟩ := pour_eq (l := l) hc1 h1 hm1 h2 hn1 (by rw [perm_keys hp2, List.map_cons, List.nodup_cons]; exact hk) (fun y hy => hl y (List.mem_cons_of_mem _ hy)) (by rw [hp.length_eq]; simp only [List.length_cons]; omega)
  refine ⟨r2, ?_, h3, fun j hj hjb => ?_, len2.trans len1⟩
  ·rw [← e2]
   unfold dict.Table_string.step.loop0
   refine whileO_step ?_
   unfold dict.Table_string.step.body0
   rw [if_isSome, need_isSome]
   show (rLdP r (some (x.id, 2))).bind _ = _
   rw [rldP_of (node_next hx), Option.bind_some, e1]
   rfl
  ·simp only [ids, List.map_cons, List.mem_cons, not_or] at hj
   rw [f2 j hj.2 hjb, f1 j hj.1 hjb]

theorem step_eq {r : Reg} {t n : Nat} {m : Tab} (h : TabAt r t m n) (hm : m.ok) :
  ∃ r', dict.Table_string.step (some (t, 0)) r = some (m.two, r') ∧ TabAt r' t m.step n ∧ Ext (m.foot t) r r' ∧ r'.length = r.length ∧ (∀ k, k ∈ m.step.foot t → k ∈ m.foot t) := by
 unfold dict.Table_string.step
 simp only [rpAdd_some, need_isSome]
 rw [show 0 + 6 = 6 from rfl, h.ldTwo, Option.bind_some]
 by_cases h2 : m.two = true
 ·rw [h2, if_neg (by decide)]
  obtain ⟨f1, f2, f3, f4, f5⟩ := h.tfree
  have hb0 : m.b0 ∈ m.blocks := by simp [Tab.blocks]
  have hb1 : m.b1 ∈ m.blocks := by simp [Tab.blocks, h2]
  have hmv := hm.mv
  have hmv0 : m.moved < m.c0.length := by rw [hm.l0]; exact hmv
  have h16 : 2 ^ m.s0 ≤ 65536 := two_pow_le16 hm.z0.2
  obtain ⟨p, hp, hch⟩ := h.h0.at hmv0
  obtain ⟨cs, hcs, hcl⟩ := h.h0.blk
  have e1 := rsto_at (vs := [.pt none]) (j := m.moved) hcs (by simp; omega)
  generalize hr1 : r.set m.b0 (splice cs m.moved [.pt none]) = r1 at e1
  obtain ⟨k1, k2, k3, k4⟩ := rsto_one e1
  have hhead : ∀ y, y ∈ m.head → y ∈ m.all := fun y hy => List.mem_append_left _ (List.mem_flatten.2 ⟨_, List.mem_of_getElem? (getD_of hmv0), hy⟩)
  have nb0 : ∀ y, y ∈ m.all → y.id ≠ m.b0 := fun y hy e => f3 _ hb0 (e ▸ mem_ids hy)
  have hc1 : Chain r1 p m.head := hch.frame fun y hy => k2 _ (nb0 y (hhead y hy))
  have hta := take_all hm
  have hbb : m.b1 ≠ m.b0 := by
   intro e
   simp [Tab.blocks, h2, e] at f4
  have hfoot : (ids m.head ++ m.take.foot t).Perm (m.foot t) := by
   have h3 : (ids m.head ++ ((t :: m.blocks) ++ ids m.take.all)).Perm ((t :: m.blocks) ++ (ids m.head ++ ids m.take.all)) := by
    rw [← List.append_assoc, ← List.append_assoc]
    exact List.perm_append_comm.append_right _
   refine h3.trans (List.Perm.append_left _ ?_)
   rw [← ids_append]
   exact ids_perm hta
  have hnd2 : (ids m.head ++ m.take.foot t).Nodup := hfoot.nodup_iff.2 h.nd
  have h1 : TabAt r1 t m.take n := by
   refine ⟨(k2 t (fun e => f1 (e ▸ hb0))).trans h.tab, ⟨⟨_, (k4 cs hcs).1, by rw [List.length_set]; simp [Tab.take, hcl]⟩, fun i xs hi => ?_⟩, fun _ => (h.h1 h2).frame (k2 _ hbb) fun y hy => k2 _ (nb0 y (List.mem_append_right _ hy)), (List.nodup_append.1 hnd2).2.1⟩
   have hi : (m.c0.set m.moved [])[i]? = some xs := hi
   by_cases e : m.moved = i
   ·subst e
    rw [List.getElem?_set_self hmv0] at hi
    obtain rfl := Option.some.inj hi
    exact ⟨none, by rw [k1]; exact if_pos rfl, rfl⟩
   ·rw [List.getElem?_set_ne e] at hi
    refine (h.h0.cell i xs hi).frame (by rw [k1]; exact if_neg (fun e2 => e (by injection e2 with _ e3; exact e3.symm))) fun y hy => k2 _ (nb0 y (List.mem_append_left _ (List.mem_flatten.2 ⟨_, List.mem_of_getElem? hi, hy⟩)))
  have hko : m.take.ok := take_ok hm
  have hkeys : ((m.head ++ m.take.all).map (·.key)).Nodup := (perm_keys hta).2 hm.keys
  have hlen := hta.length_eq
  rw [List.length_append] at hlen
  have hfew := hm.few
  obtain ⟨r2, e2, h3, g2, len2⟩ := pour_eq hc1 h1 hko h2 hnd2 hkeys (fun x hx => hm.klen x (hhead x hx)) (by omega)
  obtain ⟨w1, w2, w3, w4, w5, w6, w7, w8⟩ := pour_same (l := m.head) (m := m.take)
  have hstep : m.step = (m.take.pour m.head).next := by unfold Tab.step; rw [if_pos h2]
  obtain ⟨hso, hsp⟩ := step_ok hm
  rw [hstep] at hso hsp ⊢
  have hpo := pour_ok hko h2 hkeys (fun x hx => hm.klen x (hhead x hx)) (by omega)
  generalize hM : m.take.pour m.head = M at h3 w1 w2 w3 w4 w5 w6 w7 w8 hso hsp hpo
  have w7' : M.moved = m.moved := w7
  have w2' : M.s0 = m.s0 := w2
  have w8' : M.two = true := w8.trans h2
  -- the count of places
  have e3 := rsto_at (vs := [.it .i64 ((m.moved : Int) + 1)]) (j := 5) h3.tab (by simp [Tab.cells])
  generalize hr3 : r2.set t (splice (M.cells n) 5 [.it .i64 ((m.moved : Int) + 1)]) = r3 at e3
  obtain ⟨k31, k32, k33, k34⟩ := rsto_one e3
  have ht3 : r3[t]? = some (({ M with moved := m.moved + 1 } : Tab).cells n) := by rw [(k34 _ h3.tab).1]; rfl
  have h4 : TabAt r3 t { M with moved := m.moved + 1 } n := h3.retab k32 ht3 rfl rfl rfl rfl rfl
  have hext3 : ∀ j, j ∉ m.foot t → r3[j]? = r[j]? := fun j hj => by
   have hj' : j ∉ ids m.head ++ m.take.foot t := fun hh => hj (hfoot.mem_iff.1 hh)
   simp only [List.mem_append, not_or] at hj'
   have hjt : j ≠ t := fun e => hj (by simp [Tab.foot, e])
   have hj1 : j ≠ m.b1 := fun e => hj (by simp [Tab.foot, Tab.blocks, h2, e])
   have hj0 : j ≠ m.b0 := fun e => hj (by simp [Tab.foot, Tab.blocks, e])
   rw [k32 j hjt, g2 j hj'.1 hj1, k2 j hj0]
  have hblk : M.blocks = m.blocks := by
   unfold Tab.blocks
   rw [w8', h2, w3, w6]
   rfl
  have hMf : (M.foot t).Perm (m.foot t) := by
   unfold Tab.foot
   rw [hblk]
   exact (ids_perm (hpo.2.trans hta)).append_left _
  -- the code
  rw [need_eq (by decide), h.ldL0, Option.bind_some, h.ldMoved, Option.bind_some, need_eq (show InB (m.moved : Int) (rsLen (slc m.b0 (2 ^ m.s0))) from ⟨by omega, by show (m.moved : Int) < ((2 ^ m.s0 : Nat) : Int); omega⟩)]
  have hptr : rsPtr (slc m.b0 (2 ^ m.s0)) (m.moved : Int) 1 = some (m.b0, m.moved) := by
   show some (m.b0, 0 + ((m.moved : Int)).toNat * 1) = _
   rw [Int.toNat_natCast, Nat.zero_add, Nat.mul_one]
  rw [hptr, rldP_of hp, Option.bind_some, need_eq (by decide), Option.bind_some, Option.bind_some, need_eq (show InB (m.moved : Int) (rsLen (slc m.b0 (2 ^ m.s0))) from ⟨by omega, by show (m.moved : Int) < ((2 ^ m.s0 : Nat) : Int); omega⟩), hptr, e1, Option.bind_some, e2, Option.bind_some]
  have hm1 : ((m.moved : Int) + 1) = ((m.moved + 1 : Nat) : Int) := by omega
  rw [show 0 + 5 = 5 from rfl, h3.ldMoved, Option.bind_some, w7', i64_wrap (by omega) (by omega), e3, Option.bind_some, h4.ldMoved, Option.bind_some, need_eq (by decide)]
  rw [show 0 + 1 + 0 + 1 = 2 from rfl, h4.ldL0, Option.bind_some]
  have hnf : M.next.foot t = if m.moved + 1 = 2 ^ m.s0 then t :: [M.b1] ++ ids (M.c1.flatten ++ []) else M.foot t := by
   unfold Tab.next
   rw [w7', w2']
   split <;> rfl
  by_cases hlast : m.moved + 1 = 2 ^ m.s0
  ·rw [if_pos hlast] at hnf
   have hsub : (M.next.foot t).Sublist (M.foot t) := by
    rw [hnf]
    have hb : M.blocks = [M.b0, M.b1] := by unfold Tab.blocks; rw [w8']; rfl
    show (t :: ([M.b1] ++ ids (M.c1.flatten ++ []))).Sublist (t :: (M.blocks ++ ids M.all))
    rw [hb, List.append_nil]
    refine List.Sublist.cons_cons _ (List.Sublist.append (List.Sublist.cons _ (List.Sublist.refl _)) ?_)
    rw [show ids M.all = ids M.c0.flatten ++ ids M.c1.flatten from ids_append _ _]
    exact List.sublist_append_right _ _
   have e4 : rSto r3 (some (t, 1)) [.it .i64 M.s1, .sc (slc M.b1 (2 ^ M.s1)), .it .i64 0, .sc none] = some (r3.set t [.it .u64 M.seed, .it .i64 M.s1, .sc (slc M.b1 (2 ^ M.s1)), .it .i64 0, .sc none, .it .i64 ((m.moved + 1 : Nat) : Int), .bo M.two, .it .i64 n]) := by
    rw [rsto_at ht3 (by simp [Tab.cells])]; rfl
   have t4 := set_same (x := [.it .u64 M.seed, .it .i64 M.s1, .sc (slc M.b1 (2 ^ M.s1)), .it .i64 0, .sc none, .it .i64 ((m.moved + 1 : Nat) : Int), .bo M.two, .it .i64 n]) ht3
   have g4 : ∀ j, j ≠ t → (r3.set t [.it .u64 M.seed, .it .i64 M.s1, .sc (slc M.b1 (2 ^ M.s1)), .it .i64 0, .sc none, .it .i64 ((m.moved + 1 : Nat) : Int), .bo M.two, .it .i64 n])[j]? = r3[j]? := fun j hj => set_ne hj
   have l4 : (r3.set t [.it .u64 M.seed, .it .i64 M.s1, .sc (slc M.b1 (2 ^ M.s1)), .it .i64 0, .sc none, .it .i64 ((m.moved + 1 : Nat) : Int), .bo M.two, .it .i64 n]).length = r3.length := List.length_set
   generalize r3.set t [.it .u64 M.seed, .it .i64 M.s1, .sc (slc M.b1 (2 ^ M.s1)), .it .i64 0, .sc none, .it .i64 ((m.moved + 1 : Nat) : Int), .bo M.two, .it .i64 n] = r4 at e4 t4 g4 l4
   have e5 : rSto r4 (some (t, 6)) [.bo false] = some (r4.set t [.it .u64 M.seed, .it .i64 M.s1, .sc (slc M.b1 (2 ^ M.s1)), .it .i64 0, .sc none, .it .i64 ((m.moved + 1 : Nat) : Int), .bo false, .it .i64 n]) := by
    rw [rsto_at t4 (by simp)]; rfl
   have t5 := set_same (x := [.it .u64 M.seed, .it .i64 M.s1, .sc (slc M.b1 (2 ^ M.s1)), .it .i64 0, .sc none, .it .i64 ((m.moved + 1 : Nat) : Int), .bo false, .it .i64 n]) t4
   have g5 : ∀ j, j ≠ t → (r4.set t [.it .u64 M.seed, .it .i64 M.s1, .sc (slc M.b1 (2 ^ M.s1)), .it .i64 0, .sc none, .it .i64 ((m.moved + 1 : Nat) : Int), .bo false, .it .i64 n])[j]? = r4[j]? := fun j hj => set_ne hj
   have l5 : (r4.set t [.it .u64 M.seed, .it .i64 M.s1, .sc (slc M.b1 (2 ^ M.s1)), .it .i64 0, .sc none, .it .i64 ((m.moved + 1 : Nat) : Int), .bo false, .it .i64 n]).length = r4.length := List.length_set
   generalize r4.set t [.it .u64 M.seed, .it .i64 M.s1, .sc (slc M.b1 (2 ^ M.s1)), .it .i64 0, .sc none, .it .i64 ((m.moved + 1 : Nat) : Int), .bo false, .it .i64 n] = r5 at e5 t5 g5 l5
   have e6 : rSto r5 (some (t, 5)) [.it .i64 0] = some (r5.set t [.it .u64 M.seed, .it .i64 M.s1, .sc (slc M.b1 (2 ^ M.s1)), .it .i64 0, .sc none, .it .i64 0, .bo false, .it .i64 n]) := by
    rw [rsto_at t5 (by simp)]; rfl
   have t6 := set_same (x := [.it .u64 M.seed, .it .i64 M.s1, .sc (slc M.b1 (2 ^ M.s1)), .it .i64 0, .sc none, .it .i64 0, .bo false, .it .i64 n]) t5
   have g6 : ∀ j, j ≠ t → (r5.set t [.it .u64 M.seed, .it .i64 M.s1, .sc (slc M.b1 (2 ^ M.s1)), .it .i64 0, .sc none, .it .i64 0, .bo false, .it .i64 n])[j]? = r5[j]? := fun j hj => set_ne hj
   have l6 : (r5.set t [.it .u64 M.seed, .it .i64 M.s1, .sc (slc M.b1 (2 ^ M.s1)), .it .i64 0, .sc none, .it .i64 0, .bo false, .it .i64 n]).length = r5.length := List.length_set
   generalize r5.set t [.it .u64 M.seed, .it .i64 M.s1, .sc (slc M.b1 (2 ^ M.s1)), .it .i64 0, .sc none, .it .i64 0, .bo false, .it .i64 n] = r6 at e6 t6 g6 l6
   have g : ∀ j, j ≠ t → r6[j]? = r3[j]? := fun j hj => ((g6 j hj).trans (g5 j hj)).trans (g4 j hj)
   have hM1 : M.next = { seed := M.seed, s0 := M.s1, b0 := M.b1, c0 := M.c1, s1 := 0, b1 := 0, c1 := [], moved := 0, two := false } := by
    unfold Tab.next; rw [w7', w2', if_pos hlast]
   refine ⟨r6, ?_, ?_, ⟨by rw [l6, l5, l4, k33, len2, k3]; exact Nat.le_refl _, fun j _ hj => (g j (fun e => hj (by simp [Tab.foot, e]))).trans (hext3 j hj)⟩, by rw [l6, l5, l4, k33, len2, k3], fun j hj => hMf.mem_iff.1 (hsub.mem hj)⟩
   ·rw [if_pos (by show (((m.moved + 1 : Nat)) : Int) = ((2 ^ M.s0 : Nat) : Int); rw [w2', hlast]), need_eq (by decide), show 0 + 1 + 2 + 0 = 3 from rfl, h4.ldS1, Option.bind_some, show 0 + 1 + 2 + 1 = 4 from rfl, h4.ldL1 w8', Option.bind_some]
    show ((rSto r3 (some (t, 1)) [.it .i64 M.s1, .sc (slc M.b1 (2 ^ M.s1)), .it .i64 0, .sc none]).bind _).bind _ = _
    rw [e4, Option.bind_some, e5, Option.bind_some, e6]
    rfl
   ·obtain ⟨_, q1⟩ := h4.other (r' := r6) g
    have q2 := q1 w8'
    have q3 := hsub.nodup (hMf.nodup_iff.2 h.nd)
    rw [hM1] at q3 ⊢
    exact ⟨t6, q2, (fun h => by cases h), q3⟩
  ·rw [if_neg hlast] at hnf
   have hM1 : M.next = { M with moved := m.moved + 1 } := by
    unfold Tab.next; rw [w7', w2', if_neg hlast]
   refine ⟨r3, ?_, by rw [hM1]; exact h4, ⟨by rw [k33, len2, k3]; exact Nat.le_refl _, fun j _ hj => hext3 j hj⟩, by rw [k33, len2, k3], fun j hj => hMf.mem_iff.1 (by rw [hnf] at hj; exact hj)⟩
   rw [if_neg (by show ¬ (((m.moved + 1 : Nat)) : Int) = ((2 ^ M.s0 : Nat) : Int); rw [w2']; omega)]
   rfl
 ·have h3 : m.two = false := by simpa using h2
  rw [h3, if_pos (by decide)]
  have e : m.step = m := by unfold Tab.step; rw [h3]; rfl
  rw [e]
  exact ⟨r, rfl, h, Ext.refl _ _, rfl, fun _ hk => hk⟩

end Go.Pu
