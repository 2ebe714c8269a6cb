/- DictSteps. -/
import Derived.Test.YtahccieomaopeaaDKPuDictB
set_option maxHeartbeats 0
namespace Go.Pu
open Go.Lift

/-- What befalls a table leaves another one as it was. -/
theorem keep_other {r r' : Reg} {ta tb nb : Nat} {a a' b : Tab} (hb : TabAt r tb b nb) (okb : b.ok) (hd : ∀ k, k ∈ a.foot ta → k ∉ b.foot tb) (x : Ext (a.foot ta) r r') (sub : ∀ k, k ∈ a'.foot ta → k ∈ a.foot ta ∨ r.length ≤ k) :
  TabAt r' tb b nb ∧ (∀ k, k ∈ a'.foot ta → k ∉ b.foot tb) := by
 have hlt := hb.lt okb
 refine ⟨hb.frame fun k hk => x.out k (hlt k hk) fun hh => hd k hh hk, fun k hk hkb => ?_⟩
 rcases sub k hk with h1 | h1
 ·exact hd k h1 hkb
 ·have := hlt k hkb
  omega

theorem drop_len_eq {m : Tab} (hm : m.ok) (key : List UInt8) (b : Nat) : (m.drop key b).all.length = if m.has key then m.all.length - 1 else m.all.length := by
 rw [(drop_ok hm key b).2.length_eq]
 by_cases hh : m.has key = true
 ·rw [if_pos hh]
  obtain ⟨x, h1, h2⟩ := has_iff.1 hh
  have := del_len hm h1
  rw [h2, del_all] at this
  omega
 ·rw [if_neg hh, filter_self (not_has (by simpa using hh))]

/-- No half has more than 512 places. -/
def Tab.small (m : Tab) : Prop := m.s0 ≤ 9 ∧ m.s1 ≤ 9

theorem small_step (m : Tab) (h : m.small) : m.step.small := by
 obtain ⟨e1, e2, e3, e4, e5, e6, e7, e8⟩ := pour_same (l := m.head) (m := m.take)
 unfold Tab.step
 split
 ·unfold Tab.next
  split
  ·exact ⟨by show (m.take.pour m.head).s1 ≤ 9; rw [e5]; exact h.2, Nat.zero_le _⟩
  ·exact ⟨by show (m.take.pour m.head).s0 ≤ 9; rw [e2]; exact h.1, by show (m.take.pour m.head).s1 ≤ 9; rw [e5]; exact h.2⟩
 ·exact h

theorem pow_small {s n : Nat} (h : 2 ^ s < n) (hn : n ≤ 300) : s ≤ 8 := by
 refine Nat.le_of_not_lt fun h9 => ?_
 have : 2 ^ 9 ≤ 2 ^ s := Nat.pow_le_pow_right (by decide) h9
 omega

theorem put_small {m : Tab} (hm : m.ok) (h : m.small) (key : List UInt8) (v : Int) (b : Nat) (hl : key.length < 1000000) (hf : m.all.length + 1 ≤ 300) : (m.put key v b).small := by
 have h1 := small_step m h
 obtain ⟨ok1, p1⟩ := step_ok hm
 unfold Tab.put
 split
 ·exact h1
 ·rename_i hh
  have h2 : (m.step.ins ⟨b, key, v⟩).small := by unfold Tab.ins; split <;> exact h1
  have hlen := (ins_all ok1 ⟨b, key, v⟩).length_eq
  rw [List.length_cons, p1.length_eq] at hlen
  unfold Tab.grow
  split
  ·rename_i hg
   have := pow_small hg.2.1 (by omega)
   exact ⟨h2.1, by show (m.step.ins ⟨b, key, v⟩).s0 + 1 ≤ 9; omega⟩
  ·exact h2

theorem drop_small {m : Tab} (h : m.small) (key : List UInt8) (b : Nat) : (m.drop key b).small := by
 have h1 := small_step m h
 unfold Tab.drop
 split
 ·unfold Tab.shrink
  split
  ·exact ⟨h1.1, by show m.step.s0 - 1 ≤ 9; have := h1.1; omega⟩
  ·exact h1
 ·exact h1

theorem small_left {m : Tab} (h : m.small) : m.left ≤ 512 := by
 have : 2 ^ m.s0 ≤ 2 ^ 9 := Nat.pow_le_pow_right (by decide) h.1
 unfold Tab.left
 split <;> omega

/-- Two tables with the same keys and values; the second one is not parted. -/
structure Twin (r : Reg) (ta tb : Nat) (n : Nat) (a b : Tab) : Prop where
 ha : TabAt r ta a a.all.length
 hb : TabAt r tb b b.all.length
 oka : a.ok
 okb : b.ok
 dis : ∀ k, k ∈ a.foot ta → k ∉ b.foot tb
 same : ∀ k, a.get k = b.get k
 len : a.all.length = b.all.length
 few : a.all.length ≤ n
 small : b.small

theorem Twin.step {r : Reg} {ta tb n : Nat} {a b : Tab} (h : Twin r ta tb n a b) : ∃ (r' : Reg) (b' : Tab) (j : Nat), dict.Table_int.Step (some (tb, 0)) 1000 r = some ((j : Int), r') ∧ Twin r' ta tb n a b' ∧ b'.two = false := by
 obtain ⟨r', b', j, e, h1, ok', p', _, x', f', ht, hl, hP⟩ := Step_eq 1000 h.hb h.okb
 obtain ⟨k1, k2⟩ := keep_other (a' := b') h.ha h.oka (fun k hk hka => h.dis k hka hk) x' (fun k hk => .inl (f' k hk))
 have hsm := small_left h.small
 refine ⟨r', b', j, e, ⟨k1, h1, h.oka, ok', fun k hka hkb => k2 k hkb hka, fun k => (h.same k).trans (perm_get' h.okb ok' p'.symm k), h.len.trans p'.length_eq.symm, h.few, hP Tab.small small_step h.small⟩, ?_⟩
 cases h2 : b'.two with
 | false => rfl
 | true => have := ht h2; omega

theorem Twin.put {r : Reg} {ta tb n : Nat} {a b : Tab} (h : Twin r ta tb n a b) (hn : n < 300) {key : List UInt8} (v : Int) (hl : key.length ≤ 200) :
  ∃ (q : Bool) (r1 r2 : Reg) (a' b' : Tab), dict.Table_int.Put (some (ta, 0)) key v r = some (q, r1) ∧ dict.Table_int.Put (some (tb, 0)) key v r1 = some (q, r2) ∧ Twin r2 ta tb (n + 1) a' b' := by
 have hfew := h.few
 have hlen := h.len
 obtain ⟨r1, e1, h1, x1, f1⟩ := Put_eq h.ha h.oka v (by omega : key.length < 1000000) (by omega)
 obtain ⟨ok1, _⟩ := put_ok h.oka v r.length (by omega : key.length < 1000000) (by omega)
 obtain ⟨k1, k2⟩ := keep_other h.hb h.okb h.dis x1 f1
 obtain ⟨r2, e2, h2, x2, f2⟩ := Put_eq k1 h.okb v (by omega : key.length < 1000000) (by omega)
 obtain ⟨ok2, _⟩ := put_ok h.okb v r1.length (by omega : key.length < 1000000) (by omega)
 obtain ⟨k3, k4⟩ := keep_other h1 ok1 (fun k hk hka => k2 k hka hk) x2 f2
 have hhas : a.has key = b.has key := by rw [has_get, has_get, h.same]
 have l1 := put_len h.oka v r.length (by omega : key.length < 1000000) (by omega)
 have l2 := put_len h.okb v r1.length (by omega : key.length < 1000000) (by omega)
 refine ⟨_, r1, r2, _, _, e1, by rw [hhas]; exact e2, k3, h2, ok1, ok2, fun k hka hkb => k4 k hkb hka, fun k => ?_, ?_, ?_, put_small h.okb h.small key v _ (by omega) (by omega)⟩
 ·rw [put_get h.oka v _ (by omega) (by omega), put_get h.okb v _ (by omega) (by omega), h.same]
 ·rw [l1, l2, hhas, hlen]
 ·rw [l1]; split <;> omega

theorem Twin.drop {r : Reg} {ta tb n : Nat} {a b : Tab} (h : Twin r ta tb n a b) {key : List UInt8} (hl : key.length ≤ 200) :
  ∃ (q : Bool) (r1 r2 : Reg) (a' b' : Tab), dict.Table_int.Drop (some (ta, 0)) key r = some (q, r1) ∧ dict.Table_int.Drop (some (tb, 0)) key r1 = some (q, r2) ∧ Twin r2 ta tb (n + 1) a' b' := by
 have hfew := h.few
 have hlen := h.len
 obtain ⟨r1, e1, h1, x1, f1⟩ := Drop_eq h.ha h.oka (by omega : key.length < 1000000)
 obtain ⟨ok1, _⟩ := drop_ok h.oka key r.length
 obtain ⟨k1, k2⟩ := keep_other h.hb h.okb h.dis x1 f1
 obtain ⟨r2, e2, h2, x2, f2⟩ := Drop_eq k1 h.okb (by omega : key.length < 1000000)
 obtain ⟨ok2, _⟩ := drop_ok h.okb key r1.length
 obtain ⟨k3, k4⟩ := keep_other h1 ok1 (fun k hk hka => k2 k hka hk) x2 f2
 have hhas : a.has key = b.has key := by rw [has_get, has_get, h.same]
 have l1 := drop_len_eq h.oka key r.length
 have l2 := drop_len_eq h.okb key r1.length
 refine ⟨_, r1, r2, _, _, e1, by rw [hhas]; exact e2, k3, h2, ok1, ok2, fun k hka hkb => k4 k hkb hka, fun k => ?_, ?_, ?_, drop_small h.small key _⟩
 ·rw [drop_get h.oka, drop_get h.okb, h.same]
 ·rw [l1, l2, hhas, hlen]
 ·rw [l1]; split <;> omega

theorem Moved_none {r : Reg} {t n : Nat} {m : Tab} (h : TabAt r t m n) (h2 : m.two = false) : dict.Table_int.Moved (some (t, 0)) r = some (-1) := by
 rw [Moved_eq h, h2]; rfl

/-- What comes behind the calls. -/
theorem steps_tail {r : Reg} {ta tb n : Nat} {a b : Tab} (h : Twin r ta tb n a b) (i : Int) (ra rb : Reg) :
  ∃ (r' : Reg) (b' : Tab), ((dict.Table_int.Step (some (tb, 0)) 1000 r).bind fun r527 =>
   (
    (dict.Table_int.Len (some (ta, 0)) r527.2).bind fun r535 =>
    (dict.Table_int.Len (some (tb, 0)) r527.2).bind fun r536 =>
    if r535 = r536 then
     (dict.Table_int.Moved (some (tb, 0)) r527.2).bind fun r538 =>
     some (!decide (r538 = (-1)))
    else
     some true).bind fun s532 =>
   if s532 = true then
    (some (.inr (.inr false)) : Option (mewslaw07.DictSteps.S0 ⊕ (Reg ⊕ Bool)))
   else
    some (.inl ⟨IntKind.wrap .i64 (i + 1), r527.2⟩)) = some (.inl ⟨IntKind.wrap .i64 (i + 1), r'⟩) ∧ Twin r' ta tb n a b' := by
 obtain ⟨r', b', j, e, hT, h2⟩ := h.step
 refine ⟨r', b', ?_, hT⟩
 rw [e, Option.bind_some]
 show (((dict.Table_int.Len (some (ta, 0)) r').bind _).bind _) = _
 rw [Len_eq hT.ha, Option.bind_some]
 show (((dict.Table_int.Len (some (tb, 0)) r').bind _).bind _) = _
 rw [Len_eq hT.hb, Option.bind_some, if_pos (by rw [hT.len])]
 show (((dict.Table_int.Moved (some (tb, 0)) r').bind _).bind _) = _
 rw [Moved_none hT.hb h2]
 rfl

theorem DictSteps_pure (seed : Int) (l : List mewslaw07.Op) (hl : l.length < 1000000000000000) : mewslaw07.DictSteps seed l = some true := by
 unfold mewslaw07.DictSteps
 obtain ⟨b, hf, hf2⟩ := far07_eq l hl
 rw [hf, Option.bind_some]
 cases b with
 | true => rw [if_pos rfl, alive07]; rfl
 | false =>
  obtain ⟨hlen, hkeys⟩ := hf2 rfl
  rw [if_neg (by decide)]
  obtain ⟨r1, e1, h1, x1, l1⟩ := New_eq [] seed
  obtain ⟨r2, e2, h2, x2, l2⟩ := New_eq r1 (IntKind.wrap .u64 (seed + 1))
  rw [e1, Option.bind_some]
  show ((dict.New_int (IntKind.wrap .u64 (seed + 1)) r1).bind _) = _
  rw [e2, Option.bind_some]
  have l1 : r1.length = 2 := l1
  have h1' : TabAt r2 (([] : Reg).length + 1) (Tab.fresh seed ([] : Reg).length) 0 := h1.frame fun k hk => x2.out k (h1.lt (fresh_ok _ _) k hk) (by simp)
  have hT0 : Twin r2 (([] : Reg).length + 1) (r1.length + 1) 0 (Tab.fresh seed ([] : Reg).length) (Tab.fresh (IntKind.wrap .u64 (seed + 1)) r1.length) :=
   ⟨h1', h2, fresh_ok _ _, fresh_ok _ _, fun k hk hk2 => by
    have hk : k ∈ [1, 0] := hk
    have hk2 : k ∈ [r1.length + 1, r1.length] := hk2
    simp at hk hk2
    omega, fun k => rfl, rfl, Nat.le_refl _, ⟨by show 2 ≤ 9; decide, by show 0 ≤ 9; decide⟩⟩
  generalize hta : ([] : Reg).length + 1 = ta at hT0 ⊢
  generalize htb : r1.length + 1 = tb at hT0 ⊢
  have main : ∃ q, mewslaw07.DictSteps.loop0 l (some (ta, 0), r1) (some (tb, 0), r2) ⟨0, r2⟩ = some q ∧ ∃ mm a b, q = Sum.inl mm ∧ Twin mm ta tb 300 a b := by
   unfold mewslaw07.DictSteps.loop0
   refine whileO_dec (fun s => ∃ i : Nat, s.t25 = (i : Int) ∧ i ≤ l.length ∧ ∃ a b, Twin s.mem ta tb i a b) (fun s => l.length - s.t25.toNat) (fun q => ∃ mm a b, q = Sum.inl mm ∧ Twin mm ta tb 300 a b) ?_ _ ⟨0, rfl, Nat.zero_le _, _, _, hT0⟩
   rintro ⟨t25, mem⟩ ⟨i, e3, hi, a, b, hT⟩
   have e3 : t25 = (i : Int) := e3
   subst e3
   have hT : Twin mem ta tb i a b := hT
   unfold mewslaw07.DictSteps.body0
   by_cases hlt : i < l.length
   ·left
    have hw : IntKind.wrap .i64 ((i : Int) + 1) = ((i + 1 : Nat) : Int) := by rw [i64_wrap (by omega) (by omega)]; omega
    have hkl := hkeys l[i] (List.getElem_mem hlt)
    have fin : ∀ {r' : Reg} {a' b' : Tab} {X : Option (mewslaw07.DictSteps.S0 ⊕ (Reg ⊕ Bool))}, Twin r' ta tb (i + 1) a' b' → X = ((dict.Table_int.Step (some (tb, 0)) 1000 r').bind fun r527 =>
      (
       (dict.Table_int.Len (some (ta, 0)) r527.2).bind fun r535 =>
       (dict.Table_int.Len (some (tb, 0)) r527.2).bind fun r536 =>
       if r535 = r536 then
        (dict.Table_int.Moved (some (tb, 0)) r527.2).bind fun r538 =>
        some (!decide (r538 = (-1)))
       else
        some true).bind fun s532 =>
      if s532 = true then
       (some (.inr (.inr false)) : Option (mewslaw07.DictSteps.S0 ⊕ (Reg ⊕ Bool)))
      else
       some (.inl ⟨IntKind.wrap .i64 ((i : Int) + 1), r527.2⟩)) →
      ∃ s', X = some (Sum.inl s') ∧ (∃ j : Nat, s'.t25 = (j : Int) ∧ j ≤ l.length ∧ ∃ a b, Twin s'.mem ta tb j a b) ∧ l.length - s'.t25.toNat < l.length - ((i : Int)).toNat := by
     intro r' a' b' X hT' hX
     obtain ⟨r'', b'', e4, hT''⟩ := steps_tail hT' (i : Int) r1 r2
     exact ⟨_, hX.trans e4, ⟨i + 1, hw, hlt, _, _, hT''⟩, by show l.length - (IntKind.wrap .i64 ((i : Int) + 1)).toNat < _; rw [hw, Int.toNat_natCast, Int.toNat_natCast]; omega⟩
    show ∃ s', (if (i : Int) < (l.length : Int) then _ else _) = _ ∧ _
    rw [if_pos (by omega), need_eq ⟨by show (0 : Int) ≤ (i : Int); omega, by show (i : Int) < (l.length : Int); omega⟩]
    show ∃ s', ((if (ix l (i : Int)).Kind = 1 then _ else _ : Option _).bind _) = _ ∧ _
    rw [ix_get hlt]
    generalize l[i] = o at hkl
    by_cases k1 : o.Kind = 1
    ·obtain ⟨q, ra, rb, a', b', p1, p2, hT'⟩ := hT.drop hkl
     rw [if_pos k1, p1, Option.bind_some]
     refine fin hT' ?_
     show ((((dict.Table_int.Drop (some (tb, 0)) o.Key ra).bind _)).bind _) = _
     rw [p2, Option.bind_some, if_neg (by simp), Option.bind_some]
     rfl
    ·obtain ⟨q, ra, rb, a', b', p1, p2, hT'⟩ := hT.put (by omega) o.V hkl
     rw [if_neg k1, p1, Option.bind_some]
     refine fin hT' ?_
     show ((((dict.Table_int.Put (some (tb, 0)) o.Key o.V ra).bind _)).bind _) = _
     rw [p2, Option.bind_some, if_neg (by simp), Option.bind_some]
     rfl
   ·right
    exact ⟨_, if_neg (by show ¬ (i : Int) < (l.length : Int); omega), mem, a, b, rfl, hT.ha, hT.hb, hT.oka, hT.okb, hT.dis, hT.same, hT.len, by have := hT.few; omega, hT.small⟩
  obtain ⟨q, hq, mm, a, b, rfl, hT⟩ := main
  rw [hq, Option.bind_some]
  show (((dict.Table_int.Keys (some (ta, 0)) mm).bind _).bind _) = _
  rw [Keys_eq hT.ha hT.oka, Option.bind_some]
  have hkl : (keysOf a.all).length = a.all.length := List.length_map _
  have hfew := hT.few
  have h2 : mewslaw07.DictSteps.loop2 (keysOf a.all, mm) (some (ta, 0), r1) (some (tb, 0), r2) ⟨0⟩ = some (.inl mm) := by
   unfold mewslaw07.DictSteps.loop2
   refine whileO_knownE (σ := mewslaw07.DictSteps.S2) _ (fun i => ⟨(i : Int)⟩) (keysOf a.all).length (fun i hi => ?_) ?_
   ·unfold mewslaw07.DictSteps.body2
    show (if (i : Int) < ((keysOf a.all).length : Int) then _ else _) = _
    rw [if_pos (by omega), need_eq ⟨by show (0 : Int) ≤ (i : Int); omega, by show (i : Int) < ((keysOf a.all).length : Int); omega⟩]
    show ((dict.Table_int.Get (some (ta, 0)) (ix (keysOf a.all) (i : Int)) mm).bind _) = _
    rw [ix_get hi]
    have hmem : (keysOf a.all)[i] ∈ keysOf a.all := List.getElem_mem hi
    obtain ⟨x, hx, ex⟩ := List.mem_map.1 hmem
    have hg := get_some hT.oka hx
    have hxl := hT.oka.klen x hx
    rw [show x.key = (keysOf a.all)[i] from ex] at hg hxl
    generalize (keysOf a.all)[i] = kk at hg hxl
    rw [Get_eq hT.ha hT.oka hxl, hg, Option.bind_some]
    show ((dict.Table_int.Get (some (tb, 0)) kk mm).bind _) = _
    rw [Get_eq hT.hb hT.okb hxl, ← hT.same, hg, Option.bind_some, letO_def]
    rw [if_neg (by rw [if_pos rfl]; show ¬ (if (!true) = true then true else (!true)) = true; decide)]
    show some (Sum.inl (⟨IntKind.wrap .i64 ((i : Int) + 1)⟩ : mewslaw07.DictSteps.S2)) = _
    rw [i64_wrap (by omega) (by omega), show (i : Int) + 1 = ((i + 1 : Nat) : Int) by omega]
   ·unfold mewslaw07.DictSteps.body2
    exact if_neg (by show ¬ ((keysOf a.all).length : Int) < ((keysOf a.all).length : Int); omega)
  rw [h2, Option.bind_some]
  show (mewslaw07.alive).bind _ = _
  rw [alive07]
  rfl

end Go.Pu

namespace Go.Pu.Pure
open Go.Lift Go.Pu
theorem DictSteps {a0 : Int} {a1 : List mewslaw07.Op} (h0 : (Lit.int .u64 a0).wf = true) (h1 : a1.length * 32 ≤ 140737488351232 ∧ ∀ y0, y0 ∈ a1 → mewslaw07.Op.wf y0) : mewslaw07.DictSteps a0 a1 = some true :=
 DictSteps_pure a0 a1 (by omega)
end Go.Pu.Pure
