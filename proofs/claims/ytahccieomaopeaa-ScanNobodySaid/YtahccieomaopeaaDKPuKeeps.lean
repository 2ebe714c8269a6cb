/- DictKeeps. -/
import Derived.Test.YtahccieomaopeaaDKPuDictB
set_option maxHeartbeats 0
namespace Go.Pu
open Go.Lift

theorem count_loop (ks : List (List UInt8)) (mm : Reg) (key : List UInt8) (hk : ks.length < 1000000000) : mewslaw07.DictKeeps.loop3 (ks, mm) key ⟨0, 0⟩ = some ((ks.count key : Int), mm) := by
 unfold mewslaw07.DictKeeps.loop3
 refine whileO_knownE (σ := mewslaw07.DictKeeps.S3) _ (fun i => ⟨((ks.take i).count key : Int), (i : Int)⟩) ks.length (fun i hi => ?_) ?_ (by simp)
 ·unfold mewslaw07.DictKeeps.body3
  have hc : (ks.take i).count key ≤ i := Nat.le_trans List.count_le_length (by simp; omega)
  have e1 : ks.take (i + 1) = ks.take i ++ [ks[i]] := by rw [List.take_add_one, List.getElem?_eq_getElem hi]; rfl
  show (if (i : Int) < (ks.length : Int) then _ else _) = _
  rw [if_pos (by omega), need_eq ⟨by show (0 : Int) ≤ (i : Int); omega, by show (i : Int) < (ks.length : Int); omega⟩]
  show ((if ix ks (i : Int) = key then some (IntKind.wrap .i64 (((ks.take i).count key : Int) + 1)) else some ((ks.take i).count key : Int)).bind fun s1766 => some (Sum.inl (⟨s1766, IntKind.wrap .i64 ((i : Int) + 1)⟩ : mewslaw07.DictKeeps.S3))) = _
  rw [ix_get hi, i64_wrap (n := (i : Int) + 1) (by omega) (by omega), i64_wrap (n := ((ks.take i).count key : Int) + 1) (by omega) (by omega), e1, List.count_append, List.count_singleton]
  by_cases h : ks[i] = key
  ·rw [if_pos h, Option.bind_some, if_pos (by simpa using h)]
   rfl
  ·rw [if_neg h, Option.bind_some, if_neg (by simpa using h)]
   rfl
 ·unfold mewslaw07.DictKeeps.body3
  show (if (ks.length : Int) < (ks.length : Int) then _ else _) = _
  rw [if_neg (by omega), List.take_length]

theorem keys_count {m : Tab} (hm : m.ok) (key : List UInt8) : (keysOf m.all).count key = if m.has key then 1 else 0 := by
 unfold keysOf
 rw [List.Nodup.count hm.keys]
 by_cases h : m.has key = true
 ·obtain ⟨x, h1, h2⟩ := has_iff.1 h
  rw [if_pos h, if_pos (List.mem_map.2 ⟨x, h1, h2⟩)]
 ·rw [if_neg h, if_neg]
  intro hh
  obtain ⟨x, h1, h2⟩ := List.mem_map.1 hh
  exact h (has_iff.2 ⟨x, h1, h2⟩)

def gv (m : Tab) (key : List UInt8) : Int × Bool := match m.get key with | some v => (v, true) | none => (0, false)
theorem gv_has (m : Tab) (key : List UInt8) : (gv m key).2 = m.has key := by
 rw [has_get]
 unfold gv
 cases m.get key <;> rfl

/-- What comes behind a call. -/
noncomputable def keepsTail (t : RP) (key : List UInt8) (i : Int) (s1675 : Bool × Int × Reg) : Option (mewslaw07.DictKeeps.S0 ⊕ (Reg ⊕ Bool)) :=
   (dict.Table_int.Get t key s1675.2.2).bind fun r1704 =>
   (
    (dict.Table_int.Keys t s1675.2.2).bind fun r1740 =>
    mewslaw07.DictKeeps.loop3 r1740 key ⟨0, 0⟩).bind fun s1737 =>
   (
    if r1704.1 = s1675.2.1 then
     if (!(r1704.2 == s1675.1)) = true then
      some (true, s1737.2)
     else
      if (!((decide (s1737.1 = 1)) == s1675.1)) = true then
       some (true, s1737.2)
      else
       if 1 < s1737.1 then
        some (true, s1737.2)
       else
        (dict.Table_int.Keys t s1737.2).bind fun r1786 =>
        (dict.Table_int.Len t r1786.2).bind fun r1788 =>
        some ((!decide ((r1786.1.length : Int) = r1788)), r1786.2)
    else
     some (true, s1737.2)).bind fun s1779 =>
   if s1779.1 = true then
    some (.inr (.inr false))
   else
    some (.inl ⟨s1675.1, s1675.2.1, IntKind.wrap .i64 (i + 1), s1779.2⟩)

theorem keepsTail_eq {r : Reg} {t : Nat} {m : Tab} (h : TabAt r t m m.all.length) (hm : m.ok) {key : List UInt8} (hl : key.length < 1000000) (i : Int) :
  keepsTail (some (t, 0)) key i ((gv m key).2, (gv m key).1, r) = some (.inl ⟨(gv m key).2, (gv m key).1, IntKind.wrap .i64 (i + 1), r⟩) := by
 have hfew := hm.few
 have hg : dict.Table_int.Get (some (t, 0)) key r = some (gv m key) := Get_eq h hm hl
 have hkl : (keysOf m.all).length = m.all.length := List.length_map _
 unfold keepsTail
 show ((dict.Table_int.Get (some (t, 0)) key r).bind _) = _
 rw [hg, Option.bind_some]
 show (((dict.Table_int.Keys (some (t, 0)) r).bind _).bind _) = _
 rw [Keys_eq h hm, Option.bind_some, count_loop _ _ _ (by omega), Option.bind_some, keys_count hm, ← gv_has m key]
 rw [if_pos rfl, if_neg (show ¬ (!((gv m key).2 == (gv m key).2)) = true by simp)]
 have hd : (decide ((((if (gv m key).2 then 1 else 0 : Nat)) : Int) = 1) == (gv m key).2) = true := by cases (gv m key).2 <;> rfl
 rw [if_neg (by rw [hd]; decide), if_neg (by show ¬ (1 : Int) < ((if (gv m key).2 = true then 1 else 0 : Nat) : Int); cases (gv m key).2 <;> decide)]
 show (((dict.Table_int.Keys (some (t, 0)) r).bind _).bind _) = _
 rw [Keys_eq h hm, Option.bind_some]
 show (((dict.Table_int.Len (some (t, 0)) r).bind _).bind _) = _
 rw [Len_eq h, Option.bind_some, Option.bind_some]
 rw [if_neg (by show ¬ (!decide (((keysOf m.all).length : Int) = (m.all.length : Int))) = true; rw [hkl]; simp)]

theorem DictKeeps_pure (seed : Int) (l : List mewslaw07.Op) (key : List UInt8) (hl : l.length < 1000000000000000) : mewslaw07.DictKeeps seed l key = some true := by
 unfold mewslaw07.DictKeeps
 obtain ⟨b, hf, hf2⟩ := far07_eq l hl
 rw [hf, Option.bind_some]
 cases b with
 | true =>
  rw [if_pos rfl, Option.bind_some, if_pos rfl, alive07]
  rfl
 | false =>
  obtain ⟨hlen, hkeys⟩ := hf2 rfl
  rw [if_neg (by decide), Option.bind_some]
  by_cases hk : (200 : Int) < (key.length : Int)
  ·rw [if_pos (decide_eq_true hk), alive07]
   rfl
  ·rw [if_neg (by simpa using hk)]
   have hk' : key.length < 1000000 := by omega
   obtain ⟨r0, e0, h0, x0, l0⟩ := New_eq [] seed
   rw [e0, Option.bind_some]
   have main : ∃ q, mewslaw07.DictKeeps.loop0 l (some (([] : Reg).length + 1, 0), r0) key ⟨false, 0, 0, r0⟩ = some q ∧ ∃ mm, q = Sum.inl mm := by
    unfold mewslaw07.DictKeeps.loop0
    refine whileO_dec (fun s => ∃ i : Nat, s.t29 = (i : Int) ∧ i ≤ l.length ∧ ∃ m, TabAt s.mem (([] : Reg).length + 1) m m.all.length ∧ m.ok ∧ m.all.length ≤ i ∧ (s.want, s.has) = gv m key) (fun s => l.length - s.t29.toNat) (fun q => ∃ mm, q = Sum.inl mm) ?_ _ ⟨0, rfl, Nat.zero_le _, Tab.fresh seed ([] : Reg).length, h0, fresh_ok _ _, Nat.le_refl _, rfl⟩
    rintro ⟨has, want, t29, mem⟩ ⟨i, e1, hi, m, h, hm, hml, hgv⟩
    have e1 : t29 = (i : Int) := e1
    subst e1
    have hwant : want = (gv m key).1 := congrArg Prod.fst hgv
    have hhas : has = (gv m key).2 := congrArg Prod.snd hgv
    subst hwant hhas
    have h : TabAt mem (([] : Reg).length + 1) m m.all.length := h
    generalize hT : ([] : Reg).length + 1 = T at h ⊢
    unfold mewslaw07.DictKeeps.body0
    by_cases hlt : i < l.length
    ·left
     have hstep : ∀ {m' : Tab} {r' : Reg}, TabAt r' T m' m'.all.length → m'.ok → m'.all.length ≤ i + 1 → keepsTail (some (T, 0)) key (i : Int) ((gv m' key).2, (gv m' key).1, r') = some (.inl ⟨(gv m' key).2, (gv m' key).1, IntKind.wrap .i64 ((i : Int) + 1), r'⟩) ∧
       ∃ j : Nat, IntKind.wrap .i64 ((i : Int) + 1) = (j : Int) ∧ j ≤ l.length ∧ (∃ m'', TabAt r' T m'' m''.all.length ∧ m''.ok ∧ m''.all.length ≤ j ∧ ((gv m' key).1, (gv m' key).2) = gv m'' key) ∧ l.length - (IntKind.wrap .i64 ((i : Int) + 1)).toNat < l.length - ((i : Int)).toNat := by
      intro m' r' h' hm' hl'
      have hw : IntKind.wrap .i64 ((i : Int) + 1) = ((i + 1 : Nat) : Int) := by rw [i64_wrap (by omega) (by omega)]; omega
      exact ⟨keepsTail_eq h' hm' hk' _, i + 1, hw, hlt, ⟨m', h', hm', hl', rfl⟩, by rw [hw, Int.toNat_natCast, Int.toNat_natCast]; omega⟩
     have hkl := hkeys l[i] (List.getElem_mem hlt)
     have fin : ∀ {m' : Tab} {r' : Reg} {X : Option (mewslaw07.DictKeeps.S0 ⊕ (Reg ⊕ Bool))}, TabAt r' T m' m'.all.length → m'.ok → m'.all.length ≤ i + 1 → X = keepsTail (some (T, 0)) key (i : Int) ((gv m' key).2, (gv m' key).1, r') →
       ∃ s', X = some (Sum.inl s') ∧ (∃ j : Nat, s'.t29 = (j : Int) ∧ j ≤ l.length ∧ ∃ m'', TabAt s'.mem T m'' m''.all.length ∧ m''.ok ∧ m''.all.length ≤ j ∧ (s'.want, s'.has) = gv m'' key) ∧ l.length - s'.t29.toNat < l.length - ((i : Int)).toNat := by
      intro m' r' X h' hm' hl' hX
      obtain ⟨a1, j, a2, a3, a4, a5⟩ := hstep h' hm' hl'
      exact ⟨_, hX.trans a1, ⟨j, a2, a3, a4⟩, a5⟩
     show ∃ s', (if (i : Int) < (l.length : Int) then _ else _) = _ ∧ _
     rw [if_pos (by omega), need_eq ⟨by show (0 : Int) ≤ (i : Int); omega, by show (i : Int) < (l.length : Int); omega⟩]
     show ∃ s', ((if (ix l (i : Int)).Kind = 0 then _ else _ : Option _).bind _) = _ ∧ _
     rw [ix_get hlt]
     generalize l[i] = o at hkl
     by_cases k0 : o.Kind = 0
     ·rw [if_pos k0]
      obtain ⟨r', e2, h', x', f'⟩ := Put_eq h hm o.V (by omega : o.Key.length < 1000000) (by omega)
      obtain ⟨ok', _⟩ := put_ok hm o.V mem.length (by omega : o.Key.length < 1000000) (by omega)
      have hlen' := put_len hm o.V mem.length (by omega : o.Key.length < 1000000) (by omega)
      have hget := put_get hm o.V mem.length (by omega : o.Key.length < 1000000) (by omega) key
      rw [e2, Option.bind_some]
      refine fin h' ok' (by rw [hlen']; split <;> omega) ?_
      by_cases ek : o.Key = key
      ·have hgv' : gv (m.put o.Key o.V mem.length) key = (o.V, true) := by unfold gv; rw [hget, if_pos ek.symm]
       have hne : ¬ ((!m.has o.Key) == (gv m key).2) = true := by rw [gv_has, ek]; cases m.has key <;> decide
       rw [if_pos ek, if_neg hne, Option.bind_some, if_neg (show ¬ false = true by decide), if_pos ek, Option.bind_some, hgv']
       rfl
      ·have hgv' : gv (m.put o.Key o.V mem.length) key = gv m key := by unfold gv; rw [hget, if_neg (fun e => ek e.symm)]
       rw [if_neg ek, hgv']
       have hx : (if ((!m.has o.Key) == false) = true then some (decide (o.Key = key), r') else some (false, r')) = some (false, r') := by
        split
        ·rw [decide_eq_false ek]
        ·rfl
       rw [hx, Option.bind_some, if_neg (show ¬ false = true by decide), if_neg ek, Option.bind_some]
       rfl
     ·rw [if_neg k0]
      by_cases k1 : o.Kind = 1
      ·rw [if_pos k1]
       by_cases ek : o.Key = key
       ·obtain ⟨r', e2, h', x', f'⟩ := Drop_eq h hm hk'
        obtain ⟨ok', _⟩ := drop_ok hm key mem.length
        have hlen' := drop_len hm key mem.length
        have hget := drop_get hm key mem.length key
        have hgv' : gv (m.drop key mem.length) key = (0, false) := by unfold gv; rw [hget, if_pos rfl]
        rw [if_pos ek, e2, Option.bind_some, Option.bind_some]
        refine fin h' ok' (by omega) ?_
        rw [if_neg (by rw [gv_has]; simp), if_pos ek, Option.bind_some, hgv']
        rfl
       ·obtain ⟨r', e2, h', x', f'⟩ := Drop_eq h hm (by omega : o.Key.length < 1000000)
        obtain ⟨ok', _⟩ := drop_ok hm o.Key mem.length
        have hlen' := drop_len hm o.Key mem.length
        have hget := drop_get hm o.Key mem.length key
        have hgv' : gv (m.drop o.Key mem.length) key = gv m key := by unfold gv; rw [hget, if_neg (fun e => ek e.symm)]
        rw [if_neg ek, Option.bind_some, if_neg (show ¬ false = true by decide), if_neg ek]
        refine fin h' ok' (by omega) ?_
        rw [e2, Option.bind_some, Option.bind_some, hgv']
        rfl
      ·rw [if_neg k1]
       obtain ⟨r', m', j', e2, h', ok', p', _, x', f', _⟩ := Step_eq o.V h hm
       have hgv' : gv m' key = gv m key := by unfold gv; rw [perm_get' ok' hm p' key]
       rw [e2, Option.bind_some, Option.bind_some]
       refine fin h' ok' (by rw [p'.length_eq]; omega) ?_
       rw [hgv']
       rfl
    ·right
     refine ⟨_, if_neg (by show ¬ (i : Int) < (l.length : Int); omega), _, rfl⟩
   obtain ⟨q, hq, mm, rfl⟩ := main
   show (mewslaw07.DictKeeps.loop0 l (some (([] : Reg).length + 1, 0), r0) key ⟨false, 0, 0, r0⟩).bind _ = _
   rw [hq, Option.bind_some]
   show (mewslaw07.alive).bind _ = _
   rw [alive07]
   rfl

end Go.Pu

namespace Go.Pu.Pure
open Go.Lift Go.Pu
theorem DictKeeps {a0 : Int} {a1 : List mewslaw07.Op} {a2 : List UInt8} (h0 : (Lit.int .u64 a0).wf = true) (h1 : a1.length * 32 ≤ 140737488351232 ∧ ∀ y0, y0 ∈ a1 → mewslaw07.Op.wf y0) (h2 : a2.length ≤ 140737488351232) : mewslaw07.DictKeeps a0 a1 a2 = some true :=
 DictKeeps_pure a0 a1 a2 (by omega)
end Go.Pu.Pure
