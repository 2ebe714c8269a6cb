import Derived.Test.YtlehodoiabaaaaaFQPuStrL
import Derived.Test.YtlehodoiabaaaaaFQPuDictKS
set_option maxHeartbeats 0
set_option maxRecDepth 100000
namespace Go.Pu
open Go.Lift

theorem fDrop2 (l : List api.Field) (key : Str) (n i : Int) (m : List Str) (hl : l.length < 1000000) (hn : 0 ≤ n ∧ n < 1000000) (hm : InB i m.length) (hk : ix m i = key) :
  mewsref22.Drop.loop2 ⟨l, n, i⟩ m ⟨n, [], 0⟩ = some (n + (l.length - (l.filter fun x => decide (x.Key ≠ key)).length : Nat), l.filter fun x => decide (x.Key ≠ key)) := by
 unfold mewsref22.Drop.loop2
 have hfl : ∀ k, ((l.take k).filter fun x => decide (x.Key ≠ key)).length ≤ (l.take k).length := fun k => List.length_filter_le _ _
 refine whileO_knownE _ (fun k => (⟨n + ((l.take k).length - ((l.take k).filter fun x => decide (x.Key ≠ key)).length : Nat), (l.take k).filter fun x => decide (x.Key ≠ key), (k : Int)⟩ : mewsref22.Drop.S2)) l.length (fun k hkl => ?_) ?_ (by simp)
 ·unfold mewsref22.Drop.body2
  have h1 := hfl k
  have h3 : (l.take k).length = k := by rw [List.length_take]; omega
  show (if (k : Int) < (l.length : Int) then _ else _) = _
  rw [if_pos (by omega)]
  show ((need (InB (k : Int) l.length) (need (InB i m.length) _)).bind _) = _
  rw [need_eq ⟨by omega, by omega⟩, need_eq hm]
  show ((if (ix l (k : Int)).Key = (ix m i) then _ else _ : Option (Int × List api.Field)).bind _) = _
  rw [hk, ix_get hkl]
  have h4 : (l.take (k + 1)).filter (fun x => decide (x.Key ≠ key)) = (l.take k).filter (fun x => decide (x.Key ≠ key)) ++ if l[k].Key = key then [] else [l[k]] := by
   rw [List.take_add_one, List.getElem?_eq_getElem hkl, List.filter_append]
   congr 1
   by_cases he : l[k].Key = key <;> simp [he]
  have h5 : (l.take (k + 1)).length = k + 1 := by rw [List.length_take]; omega
  by_cases he : l[k].Key = key
  ·rw [if_pos he, Option.bind_some]
   rw [if_pos he, List.append_nil] at h4
   rw [h4, h5]
   show some (Sum.inl (⟨IntKind.wrap .i64 (n + _ + 1), _, IntKind.wrap .i64 ((k : Int) + 1)⟩ : mewsref22.Drop.S2)) = _
   rw [i64w (by omega) (by omega), i64w (by omega) (by omega), h3]
   congr 3 <;> omega
  ·rw [if_neg he]
   rw [if_neg he] at h4
   rw [h4, h5, need_eq ⟨by show (0 : Int) ≤ (k : Int); omega, by show (k : Int) < (l.length : Int); omega⟩, need_eq (by
    rw [List.length_singleton]
    show (((l.take k).filter fun x => decide (x.Key ≠ key)).length + 1) * 32 ≤ _
    omega), Option.bind_some]
   show some (Sum.inl (⟨_, _, IntKind.wrap .i64 ((k : Int) + 1)⟩ : mewsref22.Drop.S2)) = _
   rw [i64w (by omega) (by omega), List.length_append, List.length_singleton, h3, Nat.add_sub_add_right, show ((k + 1 : Nat) : Int) = (k : Int) + 1 by omega]
 ·unfold mewsref22.Drop.body2
  show (if (l.length : Int) < (l.length : Int) then _ else _) = _
  rw [if_neg (by omega), List.take_length]

theorem Tells.drop {l : List api.Field} {G : Fn} (h : Tells l G) (key : Str) : Tells (l.filter fun x => decide (x.Key ≠ key)) (dropF G key) := by
 refine ⟨List.Pairwise.sublist (List.filter_sublist.map _) h.asc, fun f => ?_⟩
 rw [List.mem_filter, h.mem, decide_eq_true_eq]
 unfold dropF
 by_cases e : f.Key = key
 ·rw [if_pos e]; simp [e]
 ·rw [if_neg e]; simp [e]

theorem fDrop_eq {l : List api.Field} {m : List Str} {G : Fn} (h : Tells l G) (hl : l.length < 1000000) (hm : m.length < 1000000) :
  ∃ r n, mewsref22.Drop l m = some (r, n) ∧ Tells r (dropG G m) ∧ (l.length : Int) = r.length + n := by
 obtain ⟨r, h1, h2⟩ : ∃ r, mewsref22.Drop.loop0 m ⟨l, 0, 0⟩ = some r ∧ Tells r.1 (dropG G m) ∧ (l.length : Int) = r.1.length + r.2 := by
  unfold mewsref22.Drop.loop0
  refine whileO_meas (fun t => ∃ i : Nat, t.i = (i : Int) ∧ i ≤ m.length ∧ Tells t.l (dropG G (m.take i)) ∧ 0 ≤ t.n ∧ (l.length : Int) = t.l.length + t.n) (fun t => m.length - t.i.toNat) _ (fun t => ?_) _ ⟨0, rfl, by omega, h, by show (0 : Int) ≤ 0; omega, by show (l.length : Int) = (l.length : Int) + 0; omega⟩
  obtain ⟨tl, tn, ti⟩ := t
  rintro ⟨i, e, hi, hT, hn0, hcnt⟩
  replace e : ti = (i : Int) := e
  replace hn0 : 0 ≤ tn := hn0
  replace hT : Tells tl (dropG G (m.take i)) := hT
  replace hcnt : (l.length : Int) = tl.length + tn := hcnt
  subst e
  unfold mewsref22.Drop.body0
  show (∃ s', (if (i : Int) < (m.length : Int) then _ else _ : Option _) = _ ∧ _) ∨ (∃ s', (if (i : Int) < (m.length : Int) then _ else _ : Option _) = _ ∧ _)
  by_cases hc : i < m.length
  ·rw [if_pos (by omega)]
   show (∃ s', ((mewsref22.Drop.loop2 ⟨tl, tn, (i : Int)⟩ m ⟨tn, [], 0⟩).bind _) = _ ∧ _) ∨ _
   rw [fDrop2 tl m[i] tn (i : Int) m (by omega) ⟨hn0, by omega⟩ ⟨by omega, by omega⟩ (ix_get hc), Option.bind_some]
   have hw : (IntKind.wrap .i64 ((i : Int) + 1)) = ((i + 1 : Nat) : Int) := by rw [i64w (by omega) (by omega)]; omega
   have hfl := List.length_filter_le (fun x : api.Field => decide (x.Key ≠ m[i])) tl
   refine .inl ⟨_, rfl, ⟨i + 1, hw, by omega, ?_, ?_, ?_⟩, ?_⟩
   ·rw [take_snoc hc, dropG_snoc]
    exact hT.drop m[i]
   ·show (0 : Int) ≤ tn + _
    omega
   ·show (l.length : Int) = ((tl.filter _).length : Nat) + (tn + _)
    omega
   ·show m.length - (IntKind.wrap .i64 ((i : Int) + 1)).toNat < m.length - (i : Int).toNat
    rw [hw]; omega
  ·rw [if_neg (by omega)]
   rw [List.take_of_length_le (by omega)] at hT
   exact .inr ⟨_, rfl, hT, hcnt⟩
 unfold mewsref22.Drop
 rw [h1]
 exact ⟨r.1, r.2, rfl, h2⟩

/-- What is told of keys. -/
def pick (G : Fn) (keys : List Str) : List api.Field := keys.filterMap fun k => (G k).map fun v => { Key := k, Val := v }

theorem pick_snoc (G : Fn) (keys : List Str) (k : Str) : pick G (keys ++ [k]) = pick G keys ++ match G k with | some v => [{ Key := k, Val := v }] | none => [] := by
 unfold pick
 rw [List.filterMap_append]
 congr 1
 cases h : G k <;> simp [h]

theorem pick_len (G : Fn) (keys : List Str) : (pick G keys).length ≤ keys.length := List.length_filterMap_le _ _

theorem pick_all {l : List api.Field} {G : Fn} (h : Tells l G) : pick G (l.map (·.Key)) = l := by
 unfold pick
 rw [List.filterMap_map]
 have : ∀ x : List api.Field, (∀ f, f ∈ x → G f.Key = some f.Val) → x.filterMap ((fun k => (G k).map fun v => ({ Key := k, Val := v } : api.Field)) ∘ (·.Key)) = x := by
  intro x
  induction x with
  | nil => intro _; rfl
  | cons a x ih =>
   intro hx
   rw [List.filterMap_cons, ih fun f hf => hx f (List.mem_cons_of_mem _ hf)]
   have e : ((fun k => (G k).map fun v => ({ Key := k, Val := v } : api.Field)) ∘ fun x : api.Field => x.Key) a = some a := by
    show (G a.Key).map (fun v => ({ Key := a.Key, Val := v } : api.Field)) = some a
    rw [hx a List.mem_cons_self]
    rfl
   rw [e]
 exact this l fun f hf => (h.mem f).1 hf

theorem fGet_eq {l : List api.Field} {keys : List Str} {G : Fn} (h : Tells l G) (hl : l.length < 1000000000000000) (hk : keys.length < 1000000) : mewsref22.Get l keys = some (pick G keys) := by
 suffices h1 : mewsref22.Get.loop0 keys l ⟨[], 0⟩ = some (pick G keys) by
  unfold mewsref22.Get
  rw [h1]; rfl
 unfold mewsref22.Get.loop0
 refine whileO_knownE ⟨[], 0⟩ (fun i => (⟨pick G (keys.take i), (i : Int)⟩ : mewsref22.Get.S0)) keys.length (fun i hi => ?_) ?_
 ·unfold mewsref22.Get.body0
  show (if (i : Int) < (keys.length : Int) then _ else _) = _
  rw [if_pos (by omega)]
  show ((need (InB (i : Int) keys.length) ((mewsref22.Has l (ix keys (i : Int))).bind _)).bind _) = _
  rw [need_eq ⟨by omega, by omega⟩, ix_get hi, fHas_eq h hl, Option.bind_some]
  have hpl := pick_len G (keys.take i)
  rw [List.length_take] at hpl
  show _ = some (Sum.inl (⟨pick G (keys.take (i + 1)), ((i + 1 : Nat) : Int)⟩ : mewsref22.Get.S0))
  rw [take_snoc hi, pick_snoc]
  cases hg : G keys[i] with
  | none =>
   show some (Sum.inl (⟨pick G (keys.take i), IntKind.wrap .i64 ((i : Int) + 1)⟩ : mewsref22.Get.S0)) = _
   rw [i64w (by omega) (by omega), show (i : Int) + 1 = ((i + 1 : Nat) : Int) by omega]
   simp
  | some v =>
   rw [if_pos (by rfl)]
   show ((need (InB (i : Int) keys.length) (need (((pick G (keys.take i)).length + 1) * 32 ≤ 140737488355328) _)).bind _) = _
   rw [need_eq ⟨by omega, by omega⟩, need_eq (by omega), Option.bind_some]
   show some (Sum.inl (⟨pick G (keys.take i) ++ [({ Key := keys[i], Val := v } : api.Field)], IntKind.wrap .i64 ((i : Int) + 1)⟩ : mewsref22.Get.S0)) = _
   rw [i64w (by omega) (by omega), show (i : Int) + 1 = ((i + 1 : Nat) : Int) by omega]
 ·unfold mewsref22.Get.body0
  show (if (keys.length : Int) < (keys.length : Int) then _ else _) = _
  rw [if_neg (by omega), List.take_length]

/-! ### Fields in a table -/
structure Fir (r : Reg) (t : Nat) (m : Tab) (G : Fn) : Prop where
 tab : TabAt r t m m.all.length
 ok : m.ok
 get : m.get = G

theorem keys_get {m : Tab} {x : Str} : x ∈ keysOf m.all ↔ (m.get x).isSome = true := by
 rw [← has_get, has_iff]
 unfold keysOf
 rw [List.mem_map]

theorem Fir.len {r : Reg} {t : Nat} {m : Tab} {G : Fn} {l : List api.Field} (h : Fir r t m G) (hl : Tells l G) : l.length = m.all.length := by
 have hk : (keysOf m.all).Nodup := h.ok.keys
 have : (l.map (·.Key)).Perm (keysOf m.all) := (List.perm_ext_iff_of_nodup hl.asc.nodup hk).2 fun x => by rw [hl.key, keys_get, h.get]
 have h2 := this.length_eq
 unfold keysOf at h2
 rw [List.length_map, List.length_map] at h2
 exact h2

theorem put_getF {m : Tab} (hm : m.ok) (f : api.Field) (b : Nat) (hl : f.Key.length < 1000000) (hf : m.all.length + 1 < 1000000) : (m.put f.Key f.Val b).get = putF m.get f := by
 funext k
 exact put_get hm f.Val b hl hf k

theorem drop_getF {m : Tab} (hm : m.ok) (x : Str) (b : Nat) : (m.drop x b).get = dropF m.get x := by
 funext k
 exact drop_get hm x b k

theorem drop_lenE {m : Tab} (hm : m.ok) (key : Str) (b : Nat) : (m.drop key b).all.length + (if m.has key then 1 else 0) = m.all.length := by
 have h := (drop_ok hm key b).2.length_eq
 by_cases hh : m.has key = true
 ·rw [if_pos hh, h]
  obtain ⟨x, hx, rfl⟩ := has_iff.1 hh
  have := del_len hm hx
  rw [del_all] at this
  exact this
 ·rw [if_neg hh, h, filter_self (not_has (by simpa using hh))]
  rfl

theorem tPut_eq {t : Nat} (l : List api.Field) (hk : ∀ y, y ∈ l → y.Key.length < 1000000) {r : Reg} {m : Tab} (h : TabAt r t m m.all.length) (hm : m.ok) (hf : m.all.length + l.length < 1000000) :
  ∃ n r' m', field.Put (some (t, 0)) l r = some (n, r') ∧ TabAt r' t m' m'.all.length ∧ m'.ok ∧ m'.get = putG m.get l ∧ (m'.all.length : Int) = m.all.length + n := by
 have main : ∃ q, field.Put.loop0 l (some (t, 0)) ⟨0, 0, r⟩ = some q ∧ ∃ m', TabAt q.2 t m' m'.all.length ∧ m'.ok ∧ m'.get = putG m.get l ∧ (m'.all.length : Int) = m.all.length + q.1 := by
  unfold field.Put.loop0
  refine whileO_meas (fun s => ∃ (i : Nat) (m' : Tab), s.t10 = (i : Int) ∧ i ≤ l.length ∧ TabAt s.mem t m' m'.all.length ∧ m'.ok ∧ m'.get = putG m.get (l.take i) ∧ (m'.all.length : Int) = m.all.length + s.n ∧ 0 ≤ s.n ∧ s.n ≤ (i : Int))
   (fun s => l.length - s.t10.toNat) _ (fun s => ?_) _ ⟨0, m, rfl, by omega, h, hm, rfl, by show (m.all.length : Int) = m.all.length + 0; omega, by show (0 : Int) ≤ 0; omega, by show (0 : Int) ≤ 0; omega⟩
  obtain ⟨n, t10, r1⟩ := s
  rintro ⟨i, m1, e, hi, h1, hm1, hh, hc, hn0, hn⟩
  replace e : t10 = (i : Int) := e
  replace h1 : TabAt r1 t m1 m1.all.length := h1
  replace hc : (m1.all.length : Int) = m.all.length + n := hc
  replace hn0 : 0 ≤ n := hn0
  replace hn : n ≤ (i : Int) := hn
  subst e
  unfold field.Put.body0
  show (∃ s', (if (i : Int) < (l.length : Int) then _ else _ : Option _) = _ ∧ _) ∨ (∃ s', (if (i : Int) < (l.length : Int) then _ else _ : Option _) = _ ∧ _)
  by_cases hil : i < l.length
  ·rw [if_pos (by omega)]
   show (∃ s', ((need (InB (i : Int) l.length) ((dict.Table_string.Put (some (t, 0)) (ix l (i : Int)).Key (ix l (i : Int)).Val r1).bind _)).bind _) = _ ∧ _) ∨ _
   rw [need_eq ⟨by omega, by omega⟩, ix_get hil]
   have hkl : l[i].Key.length < 1000000 := hk _ (List.getElem_mem hil)
   obtain ⟨r2, e2, h2, x2, s2⟩ := Put_eq h1 hm1 l[i].Val hkl (by omega)
   rw [e2, Option.bind_some]
   have hl2 := put_len hm1 l[i].Val r1.length hkl (by omega)
   have hh2 := put_getF hm1 l[i] r1.length hkl (by omega)
   have hok2 := (put_ok hm1 l[i].Val r1.length hkl (by omega)).1
   generalize m1.put l[i].Key l[i].Val r1.length = m2 at h2 hl2 hh2 hok2
   have hw : (IntKind.wrap .i64 ((i : Int) + 1)) = ((i + 1 : Nat) : Int) := by rw [i64w (by omega) (by omega)]; omega
   have hst : m2.get = putG m.get (l.take (i + 1)) := by rw [hh2, hh, take_snoc hil, putG_snoc]
   have hw2 : IntKind.wrap .i64 (n + 1) = n + 1 := i64w (by omega) (by omega)
   cases hb : m1.has l[i].Key with
   | true =>
    rw [hb, if_pos rfl] at hl2
    refine .inl ⟨_, rfl, ⟨i + 1, m2, hw, by omega, h2, hok2, hst, ?_, ?_, ?_⟩, ?_⟩
    ·show (m2.all.length : Int) = m.all.length + n
     omega
    ·exact hn0
    ·show n ≤ ((i + 1 : Nat) : Int)
     omega
    ·show l.length - (IntKind.wrap .i64 ((i : Int) + 1)).toNat < l.length - (i : Int).toNat
     rw [hw]; omega
   | false =>
    rw [hb, if_neg (by decide)] at hl2
    refine .inl ⟨_, rfl, ⟨i + 1, m2, hw, by omega, h2, hok2, hst, ?_, ?_, ?_⟩, ?_⟩
    ·show (m2.all.length : Int) = m.all.length + IntKind.wrap .i64 (n + 1)
     omega
    ·show 0 ≤ IntKind.wrap .i64 (n + 1)
     omega
    ·show IntKind.wrap .i64 (n + 1) ≤ ((i + 1 : Nat) : Int)
     omega
    ·show l.length - (IntKind.wrap .i64 ((i : Int) + 1)).toNat < l.length - (i : Int).toNat
     rw [hw]; omega
  ·rw [if_neg (by omega)]
   rw [List.take_of_length_le (by omega)] at hh
   exact .inr ⟨_, rfl, m1, h1, hm1, hh, hc⟩
 obtain ⟨q, hq, m', h1, h2, h3, h4⟩ := main
 unfold field.Put
 rw [hq]
 exact ⟨q.1, q.2, m', rfl, h1, h2, h3, h4⟩

theorem tDrop_eq {t : Nat} (l : List Str) (hk : ∀ y, y ∈ l → y.length < 1000000) {r : Reg} {m : Tab} (h : TabAt r t m m.all.length) (hm : m.ok) (hf : l.length < 1000000) :
  ∃ n r' m', field.Drop (some (t, 0)) l r = some (n, r') ∧ TabAt r' t m' m'.all.length ∧ m'.ok ∧ m'.get = dropG m.get l ∧ (m.all.length : Int) = m'.all.length + n := by
 have main : ∃ q, field.Drop.loop0 l (some (t, 0)) ⟨0, 0, r⟩ = some q ∧ ∃ m', TabAt q.2 t m' m'.all.length ∧ m'.ok ∧ m'.get = dropG m.get l ∧ (m.all.length : Int) = m'.all.length + q.1 := by
  unfold field.Drop.loop0
  refine whileO_meas (fun s => ∃ (i : Nat) (m' : Tab), s.t10 = (i : Int) ∧ i ≤ l.length ∧ TabAt s.mem t m' m'.all.length ∧ m'.ok ∧ m'.get = dropG m.get (l.take i) ∧ (m.all.length : Int) = m'.all.length + s.n ∧ 0 ≤ s.n ∧ s.n ≤ (i : Int))
   (fun s => l.length - s.t10.toNat) _ (fun s => ?_) _ ⟨0, m, rfl, by omega, h, hm, rfl, by show (m.all.length : Int) = m.all.length + 0; omega, by show (0 : Int) ≤ 0; omega, by show (0 : Int) ≤ 0; omega⟩
  obtain ⟨n, t10, r1⟩ := s
  rintro ⟨i, m1, e, hi, h1, hm1, hh, hc, hn0, hn⟩
  replace e : t10 = (i : Int) := e
  replace h1 : TabAt r1 t m1 m1.all.length := h1
  replace hc : (m.all.length : Int) = m1.all.length + n := hc
  replace hn0 : 0 ≤ n := hn0
  replace hn : n ≤ (i : Int) := hn
  subst e
  unfold field.Drop.body0
  show (∃ s', (if (i : Int) < (l.length : Int) then _ else _ : Option _) = _ ∧ _) ∨ (∃ s', (if (i : Int) < (l.length : Int) then _ else _ : Option _) = _ ∧ _)
  by_cases hil : i < l.length
  ·rw [if_pos (by omega)]
   show (∃ s', ((need (InB (i : Int) l.length) ((dict.Table_string.Drop (some (t, 0)) (ix l (i : Int)) r1).bind _)).bind _) = _ ∧ _) ∨ _
   rw [need_eq ⟨by omega, by omega⟩, ix_get hil]
   have hkl : l[i].length < 1000000 := hk _ (List.getElem_mem hil)
   obtain ⟨r2, e2, h2, x2, s2⟩ := Drop_eq h1 hm1 hkl
   rw [e2, Option.bind_some]
   have hl2 := drop_lenE hm1 l[i] r1.length
   have hh2 := drop_getF hm1 l[i] r1.length
   have hok2 := (drop_ok hm1 l[i] r1.length).1
   generalize m1.drop l[i] r1.length = m2 at h2 hl2 hh2 hok2
   have hw : (IntKind.wrap .i64 ((i : Int) + 1)) = ((i + 1 : Nat) : Int) := by rw [i64w (by omega) (by omega)]; omega
   have hst : m2.get = dropG m.get (l.take (i + 1)) := by rw [hh2, hh, take_snoc hil, dropG_snoc]
   have hw2 : IntKind.wrap .i64 (n + 1) = n + 1 := i64w (by omega) (by omega)
   cases hb : m1.has l[i] with
   | false =>
    rw [hb, if_neg (by decide)] at hl2
    refine .inl ⟨_, rfl, ⟨i + 1, m2, hw, by omega, h2, hok2, hst, ?_, ?_, ?_⟩, ?_⟩
    ·show (m.all.length : Int) = m2.all.length + n
     omega
    ·exact hn0
    ·show n ≤ ((i + 1 : Nat) : Int)
     omega
    ·show l.length - (IntKind.wrap .i64 ((i : Int) + 1)).toNat < l.length - (i : Int).toNat
     rw [hw]; omega
   | true =>
    rw [hb, if_pos rfl] at hl2
    refine .inl ⟨_, rfl, ⟨i + 1, m2, hw, by omega, h2, hok2, hst, ?_, ?_, ?_⟩, ?_⟩
    ·show (m.all.length : Int) = m2.all.length + IntKind.wrap .i64 (n + 1)
     omega
    ·show 0 ≤ IntKind.wrap .i64 (n + 1)
     omega
    ·show IntKind.wrap .i64 (n + 1) ≤ ((i + 1 : Nat) : Int)
     omega
    ·show l.length - (IntKind.wrap .i64 ((i : Int) + 1)).toNat < l.length - (i : Int).toNat
     rw [hw]; omega
  ·rw [if_neg (by omega)]
   rw [List.take_of_length_le (by omega)] at hh
   exact .inr ⟨_, rfl, m1, h1, hm1, hh, hc⟩
 obtain ⟨q, hq, m', h1, h2, h3, h4⟩ := main
 unfold field.Drop
 rw [hq]
 exact ⟨q.1, q.2, m', rfl, h1, h2, h3, h4⟩

theorem tGet_eq {r : Reg} {t : Nat} {m : Tab} {G : Fn} (h : Fir r t m G) {keys : List Str} (hk : ∀ y, y ∈ keys → y.length < 1000000) (hl : keys.length < 1000000) : field.Get (some (t, 0)) keys r = some (pick G keys) := by
 suffices h1 : field.Get.loop0 keys (some (t, 0)) r ⟨[], 0⟩ = some (pick G keys) by
  unfold field.Get
  rw [h1]; rfl
 unfold field.Get.loop0
 refine whileO_knownE ⟨[], 0⟩ (fun i => (⟨pick G (keys.take i), (i : Int)⟩ : field.Get.S0)) keys.length (fun i hi => ?_) ?_
 ·unfold field.Get.body0
  show (if (i : Int) < (keys.length : Int) then _ else _) = _
  rw [if_pos (by omega)]
  show ((need (InB (i : Int) keys.length) ((dict.Table_string.Get (some (t, 0)) (ix keys (i : Int)) r).bind _)).bind _) = _
  rw [need_eq ⟨by omega, by omega⟩, ix_get hi, Get_eq h.tab h.ok (hk _ (List.getElem_mem hi)), Option.bind_some, h.get]
  have hpl := pick_len G (keys.take i)
  rw [List.length_take] at hpl
  show _ = some (Sum.inl (⟨pick G (keys.take (i + 1)), ((i + 1 : Nat) : Int)⟩ : field.Get.S0))
  rw [take_snoc hi, pick_snoc]
  cases hg : G keys[i] with
  | none =>
   show some (Sum.inl (⟨pick G (keys.take i), IntKind.wrap .i64 ((i : Int) + 1)⟩ : field.Get.S0)) = _
   rw [i64w (by omega) (by omega), show (i : Int) + 1 = ((i + 1 : Nat) : Int) by omega]
   simp
  | some v =>
   rw [if_pos (by rfl)]
   show ((need (((pick G (keys.take i)).length + 1) * 32 ≤ 140737488355328) _).bind _) = _
   rw [need_eq (by omega), Option.bind_some]
   show some (Sum.inl (⟨pick G (keys.take i) ++ [({ Key := keys[i], Val := v } : api.Field)], IntKind.wrap .i64 ((i : Int) + 1)⟩ : field.Get.S0)) = _
   rw [i64w (by omega) (by omega), show (i : Int) + 1 = ((i + 1 : Nat) : Int) by omega]
 ·unfold field.Get.body0
  show (if (keys.length : Int) < (keys.length : Int) then _ else _) = _
  rw [if_neg (by omega), List.take_length]

theorem tAll_eq {r : Reg} {t : Nat} {m : Tab} {G : Fn} {l : List api.Field} (h : Fir r t m G) (hl : Tells l G) : field.All (some (t, 0)) r = some (l, r) := by
 unfold field.All
 rw [Keys_eq h.tab h.ok, Option.bind_some]
 show (slices.Sort_string (keysOf m.all)).bind _ = _
 have hfew := h.ok.few
 have hnd : (keysOf m.all).Nodup := h.ok.keys
 have hlen := h.len hl
 rw [Sort_eq (l := l.map (·.Key)) hnd hl.asc (fun y => by rw [hl.key, keys_get, h.get]) (by unfold keysOf; rw [List.length_map]; exact hfew), Option.bind_some]
 show (field.Get (some (t, 0)) (l.map (·.Key)) r).bind _ = _
 rw [tGet_eq h (fun y hy => ?_) (by rw [List.length_map]; omega), pick_all hl]
 ·rfl
 ·rw [hl.key, ← h.get, ← keys_get] at hy
  obtain ⟨x, hx, rfl⟩ := List.mem_map.1 hy
  exact h.ok.klen x hx

/-- What G tells can be told in a list. -/
theorem Fir.tells {r : Reg} {t : Nat} {m : Tab} {G : Fn} (h : Fir r t m G) : ∃ l, Tells l G := by
 have hm := h.ok
 have : ∀ x : List Nd, x.length ≤ m.all.length → (∀ y, y ∈ x → y ∈ m.all) → ∃ l, Tells l (putG (fun _ => none) (x.map fun y => { Key := y.key, Val := y.v })) := by
  intro x hx1 hx
  obtain ⟨r, n, h1, h2, h3⟩ := fPut_eq (x := x.map fun y => { Key := y.key, Val := y.v }) Tells.nil (by
   have := hm.few
   rw [List.length_map, List.length_nil]
   omega)
  exact ⟨r, h2⟩
 obtain ⟨l, hl⟩ := this m.all (Nat.le_refl _) fun y hy => hy
 refine ⟨l, ?_⟩
 suffices hG : putG (fun _ => none) (m.all.map fun y => { Key := y.key, Val := y.v }) = G by rw [← hG]; exact hl
 funext k
 rw [← h.get]
 have key : ∀ (x : List Nd) (G0 : Fn), (x.map (·.key)).Nodup → putG G0 (x.map fun y => { Key := y.key, Val := y.v }) k = match x.find? (fun y => decide (y.key = k)) with | some y => some y.v | none => G0 k := by
  intro x
  induction x with
  | nil => intro G0 _; rfl
  | cons a x ih =>
   intro G0 hn
   have hn' := List.nodup_cons.1 hn
   show putG (putF G0 { Key := a.key, Val := a.v }) (x.map fun y => { Key := y.key, Val := y.v }) k = _
   rw [ih _ hn'.2, List.find?_cons]
   by_cases e : a.key = k
   ·rw [decide_eq_true e]
    have hno : x.find? (fun y => decide (y.key = k)) = none := List.find?_eq_none.2 fun y hy => by
     rw [decide_eq_true_eq]
     intro e2
     exact hn'.1 (List.mem_map.2 ⟨y, hy, e2.trans e.symm⟩)
    rw [hno]
    show (if k = a.key then some a.v else G0 k) = some a.v
    rw [if_pos e.symm]
   ·rw [decide_eq_false e]
    cases x.find? (fun y => decide (y.key = k)) with
    | some y => rfl
    | none =>
     show (if k = a.key then some a.v else G0 k) = G0 k
     rw [if_neg (fun h => e h.symm)]
 rw [key m.all _ hm.keys]
 unfold Tab.get
 cases m.all.find? (fun y => decide (y.key = k)) <;> rfl

end Go.Pu
