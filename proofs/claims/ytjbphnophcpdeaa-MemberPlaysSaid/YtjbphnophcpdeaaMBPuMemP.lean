/- Chapter 23: members in a table: MemberNobody, MemberPlays. -/
import Derived.Test.YtjbphnophcpdeaaMBPuMemR
import Derived.Test.YtjbphnophcpdeaaMBPuDictKB
set_option maxHeartbeats 0
set_option maxRecDepth 100000
namespace Go.Pu
open Go.Lift

theorem put_has {m : Tab} (hm : m.ok) {key : Str} (v : Bool) (b : Nat) (hl : key.length < 1000000) (hf : m.all.length + 1 < 1000000) (k : Str) : (m.put key v b).has k = true ↔ m.has k = true ∨ k = key := by
 rw [has_get, put_get hm v b hl hf, has_get]
 by_cases h : k = key
 ·rw [if_pos h]; simp [h]
 ·rw [if_neg h]; simp [h]

theorem drop_has {m : Tab} (hm : m.ok) {key : Str} (b : Nat) (k : Str) : (m.drop key b).has k = true ↔ m.has k = true ∧ k ≠ key := by
 rw [has_get, drop_get hm, has_get]
 by_cases h : k = key
 ·rw [if_pos h]; simp [h]
 ·rw [if_neg h]; simp [h]

theorem drop_lenE {m : Tab} (hm : m.ok) (key : Str) (b : Nat) : (m.drop key b).all.length + (if m.has key then 1 else 0) = m.all.length := by
 have h := (drop_ok hm key b).2.length_eq
 by_cases hh : m.has key = true
 ·rw [if_pos hh, h]
  obtain ⟨x, hx, rfl⟩ := has_iff.1 hh
  have := del_len hm hx
  rw [del_all] at this
  exact this
 ·rw [if_neg hh, h, filter_self (not_has (by simpa using hh))]
  rfl

/-- A table and the reference's list have the same members. -/
structure Mir (r : Reg) (t : Nat) (m : Tab) (l : List Str) : Prop where
 tab : TabAt r t m m.all.length
 ok : m.ok
 asc : Asc l
 mem : ∀ x, x ∈ l ↔ m.has x = true

theorem keys_mem {m : Tab} {x : Str} : x ∈ keysOf m.all ↔ m.has x = true := by
 rw [has_iff]
 unfold keysOf
 rw [List.mem_map]

theorem Mir.len {r : Reg} {t : Nat} {m : Tab} {l : List Str} (h : Mir r t m l) : l.length = m.all.length := by
 have : l.Perm (keysOf m.all) := (List.perm_ext_iff_of_nodup h.asc.nodup h.ok.keys).2 fun x => (h.mem x).trans keys_mem.symm
 rw [this.length_eq]
 exact List.length_map _

theorem mPut_eq {t : Nat} (l : List Str) (hk : ∀ y, y ∈ l → y.length < 1000000) {r : Reg} {m : Tab} (h : TabAt r t m m.all.length) (hm : m.ok) (hf : m.all.length + l.length < 1000000) :
  ∃ n r' m', member.Put (some (t, 0)) l r = some (n, r') ∧ TabAt r' t m' m'.all.length ∧ m'.ok ∧ (∀ k, m'.has k = true ↔ m.has k = true ∨ k ∈ l) ∧ (m'.all.length : Int) = m.all.length + n := by
 have main : ∃ q, member.Put.loop0 l (some (t, 0)) ⟨0, 0, r⟩ = some q ∧ ∃ m', TabAt q.2 t m' m'.all.length ∧ m'.ok ∧ (∀ k, m'.has k = true ↔ m.has k = true ∨ k ∈ l) ∧ (m'.all.length : Int) = m.all.length + q.1 := by
  unfold member.Put.loop0
  refine whileO_meas (fun s => ∃ (i : Nat) (m' : Tab), s.t10 = (i : Int) ∧ i ≤ l.length ∧ TabAt s.mem t m' m'.all.length ∧ m'.ok ∧ (∀ k, m'.has k = true ↔ m.has k = true ∨ k ∈ l.take i) ∧ (m'.all.length : Int) = m.all.length + s.n ∧ 0 ≤ s.n ∧ s.n ≤ (i : Int))
   (fun s => l.length - s.t10.toNat) _ (fun s => ?_) _ ⟨0, m, rfl, by omega, h, hm, by simp, by show (m.all.length : Int) = m.all.length + 0; omega, by show (0 : Int) ≤ 0; omega, by show (0 : Int) ≤ 0; omega⟩
  obtain ⟨n, t10, r1⟩ := s
  rintro ⟨i, m1, e, hi, h1, hm1, hh, hc, hn0, hn⟩
  have e : t10 = (i : Int) := e
  have h1 : TabAt r1 t m1 m1.all.length := h1
  have hc : (m1.all.length : Int) = m.all.length + n := hc
  have hn0 : 0 ≤ n := hn0
  have hn : n ≤ (i : Int) := hn
  subst e
  unfold member.Put.body0
  show (∃ s', (if (i : Int) < (l.length : Int) then _ else _ : Option _) = _ ∧ _) ∨ (∃ s', (if (i : Int) < (l.length : Int) then _ else _ : Option _) = _ ∧ _)
  by_cases hil : i < l.length
  ·rw [if_pos (by omega)]
   show (∃ s', ((need (InB (i : Int) l.length) ((dict.Table_bool.Put (some (t, 0)) (ix l (i : Int)) true r1).bind _)).bind _) = _ ∧ _) ∨ _
   rw [need_eq ⟨by omega, by omega⟩, ix_get hil]
   have hkl : l[i].length < 1000000 := hk _ (List.getElem_mem hil)
   obtain ⟨r2, e2, h2, x2, s2⟩ := Put_eq h1 hm1 true hkl (by omega)
   rw [e2, Option.bind_some]
   have hl2 := put_len hm1 true r1.length hkl (by omega)
   have hh2 := put_has hm1 true r1.length hkl (by omega)
   have hok2 := (put_ok hm1 true r1.length hkl (by omega)).1
   generalize m1.put l[i] true r1.length = m2 at h2 hl2 hh2 hok2
   have hw : (IntKind.wrap .i64 ((i : Int) + 1)) = ((i + 1 : Nat) : Int) := by rw [i64w (by omega) (by omega)]; omega
   have hst : ∀ k, m2.has k = true ↔ m.has k = true ∨ k ∈ l.take (i + 1) := fun k => by
    rw [hh2, hh, List.take_add_one, List.getElem?_eq_getElem hil, List.mem_append, or_assoc]
    simp
   cases hb : m1.has l[i] with
   | true =>
    rw [hb, if_pos rfl] at hl2
    refine .inl ⟨_, rfl, ⟨i + 1, m2, hw, by omega, h2, hok2, hst, ?_, ?_, ?_⟩, ?_⟩
    ·show (m2.all.length : Int) = m.all.length + n
     omega
    ·exact hn0
    ·show n ≤ ((i + 1 : Nat) : Int)
     omega
    ·show l.length - (IntKind.wrap .i64 ((i : Int) + 1)).toNat < l.length - (i : Int).toNat
     rw [hw]; omega
   | false =>
    rw [hb, if_neg (by decide)] at hl2
    have hw2 : IntKind.wrap .i64 (n + 1) = n + 1 := i64w (by omega) (by omega)
    refine .inl ⟨_, rfl, ⟨i + 1, m2, hw, by omega, h2, hok2, hst, ?_, ?_, ?_⟩, ?_⟩
    ·show (m2.all.length : Int) = m.all.length + IntKind.wrap .i64 (n + 1)
     omega
    ·show 0 ≤ IntKind.wrap .i64 (n + 1)
     omega
    ·show IntKind.wrap .i64 (n + 1) ≤ ((i + 1 : Nat) : Int)
     omega
    ·show l.length - (IntKind.wrap .i64 ((i : Int) + 1)).toNat < l.length - (i : Int).toNat
     rw [hw]; omega
  ·rw [if_neg (by omega)]
   rw [List.take_of_length_le (by omega)] at hh
   exact .inr ⟨_, rfl, m1, h1, hm1, hh, hc⟩
 obtain ⟨q, hq, m', h1, h2, h3, h4⟩ := main
 unfold member.Put
 rw [hq]
 exact ⟨q.1, q.2, m', rfl, h1, h2, h3, h4⟩

theorem mDrop_eq {t : Nat} (l : List Str) (hk : ∀ y, y ∈ l → y.length < 1000000) {r : Reg} {m : Tab} (h : TabAt r t m m.all.length) (hm : m.ok) (hf : l.length < 1000000) :
  ∃ n r' m', member.Drop (some (t, 0)) l r = some (n, r') ∧ TabAt r' t m' m'.all.length ∧ m'.ok ∧ (∀ k, m'.has k = true ↔ m.has k = true ∧ k ∉ l) ∧ (m.all.length : Int) = m'.all.length + n := by
 have main : ∃ q, member.Drop.loop0 l (some (t, 0)) ⟨0, 0, r⟩ = some q ∧ ∃ m', TabAt q.2 t m' m'.all.length ∧ m'.ok ∧ (∀ k, m'.has k = true ↔ m.has k = true ∧ k ∉ l) ∧ (m.all.length : Int) = m'.all.length + q.1 := by
  unfold member.Drop.loop0
  refine whileO_meas (fun s => ∃ (i : Nat) (m' : Tab), s.t10 = (i : Int) ∧ i ≤ l.length ∧ TabAt s.mem t m' m'.all.length ∧ m'.ok ∧ (∀ k, m'.has k = true ↔ m.has k = true ∧ k ∉ l.take i) ∧ (m.all.length : Int) = m'.all.length + s.n ∧ 0 ≤ s.n ∧ s.n ≤ (i : Int))
   (fun s => l.length - s.t10.toNat) _ (fun s => ?_) _ ⟨0, m, rfl, by omega, h, hm, by simp, by show (m.all.length : Int) = m.all.length + 0; omega, by show (0 : Int) ≤ 0; omega, by show (0 : Int) ≤ 0; omega⟩
  obtain ⟨n, t10, r1⟩ := s
  rintro ⟨i, m1, e, hi, h1, hm1, hh, hc, hn0, hn⟩
  have e : t10 = (i : Int) := e
  have h1 : TabAt r1 t m1 m1.all.length := h1
  have hc : (m.all.length : Int) = m1.all.length + n := hc
  have hn0 : 0 ≤ n := hn0
  have hn : n ≤ (i : Int) := hn
  subst e
  unfold member.Drop.body0
  show (∃ s', (if (i : Int) < (l.length : Int) then _ else _ : Option _) = _ ∧ _) ∨ (∃ s', (if (i : Int) < (l.length : Int) then _ else _ : Option _) = _ ∧ _)
  by_cases hil : i < l.length
  ·rw [if_pos (by omega)]
   show (∃ s', ((need (InB (i : Int) l.length) ((dict.Table_bool.Drop (some (t, 0)) (ix l (i : Int)) r1).bind _)).bind _) = _ ∧ _) ∨ _
   rw [need_eq ⟨by omega, by omega⟩, ix_get hil]
   have hkl : l[i].length < 1000000 := hk _ (List.getElem_mem hil)
   obtain ⟨r2, e2, h2, x2, s2⟩ := Drop_eq h1 hm1 hkl
   rw [e2, Option.bind_some]
   have hl2 := drop_lenE hm1 l[i] r1.length
   have hh2 := drop_has hm1 (key := l[i]) r1.length
   have hok2 := (drop_ok hm1 l[i] r1.length).1
   generalize m1.drop l[i] r1.length = m2 at h2 hl2 hh2 hok2
   have hw : (IntKind.wrap .i64 ((i : Int) + 1)) = ((i + 1 : Nat) : Int) := by rw [i64w (by omega) (by omega)]; omega
   have hst : ∀ k, m2.has k = true ↔ m.has k = true ∧ k ∉ l.take (i + 1) := fun k => by
    rw [hh2, hh, List.take_add_one, List.getElem?_eq_getElem hil, List.mem_append, not_or, and_assoc]
    simp
   have hw2 : IntKind.wrap .i64 (n + 1) = n + 1 := i64w (by omega) (by omega)
   cases hb : m1.has l[i] with
   | false =>
    rw [hb, if_neg (by decide)] at hl2
    refine .inl ⟨_, rfl, ⟨i + 1, m2, hw, by omega, h2, hok2, hst, ?_, ?_, ?_⟩, ?_⟩
    ·show (m.all.length : Int) = m2.all.length + n
     omega
    ·exact hn0
    ·show n ≤ ((i + 1 : Nat) : Int)
     omega
    ·show l.length - (IntKind.wrap .i64 ((i : Int) + 1)).toNat < l.length - (i : Int).toNat
     rw [hw]; omega
   | true =>
    rw [hb, if_pos rfl] at hl2
    refine .inl ⟨_, rfl, ⟨i + 1, m2, hw, by omega, h2, hok2, hst, ?_, ?_, ?_⟩, ?_⟩
    ·show (m.all.length : Int) = m2.all.length + IntKind.wrap .i64 (n + 1)
     omega
    ·show 0 ≤ IntKind.wrap .i64 (n + 1)
     omega
    ·show IntKind.wrap .i64 (n + 1) ≤ ((i + 1 : Nat) : Int)
     omega
    ·show l.length - (IntKind.wrap .i64 ((i : Int) + 1)).toNat < l.length - (i : Int).toNat
     rw [hw]; omega
  ·rw [if_neg (by omega)]
   rw [List.take_of_length_le (by omega)] at hh
   exact .inr ⟨_, rfl, m1, h1, hm1, hh, hc⟩
 obtain ⟨q, hq, m', h1, h2, h3, h4⟩ := main
 unfold member.Drop
 rw [hq]
 exact ⟨q.1, q.2, m', rfl, h1, h2, h3, h4⟩

theorem Mir.all {r : Reg} {t : Nat} {m : Tab} {l : List Str} (h : Mir r t m l) : member.All (some (t, 0)) r = some (l, r) := by
 unfold member.All
 rw [Keys_eq h.tab h.ok, Option.bind_some]
 show (slices.Sort_string (keysOf m.all)).bind _ = _
 have hfew := h.ok.few
 have hnd : (keysOf m.all).Nodup := h.ok.keys
 rw [Sort_eq (l := l) hnd h.asc (fun y => keys_mem.trans (h.mem y).symm) (by unfold keysOf; rw [List.length_map]; exact hfew)]
 rfl

theorem Mir.hasE {r : Reg} {t : Nat} {m : Tab} {l : List Str} (h : Mir r t m l) {s : Str} (hs : s.length < 1000000) : member.Has (some (t, 0)) s r = some (decide (s ∈ l)) := by
 unfold member.Has
 rw [Get_eq h.tab h.ok hs, Option.bind_some]
 have h1 : m.has s = decide (s ∈ l) := by
  have := h.mem s
  cases hb : m.has s with
  | true => rw [hb] at this; exact (decide_eq_true (this.2 rfl)).symm
  | false => rw [hb] at this; exact (decide_eq_false fun h2 => by cases this.1 h2).symm
 rw [← h1, has_get]
 cases m.get s <;> rfl

theorem Mir.lenE {r : Reg} {t : Nat} {m : Tab} {l : List Str} (h : Mir r t m l) : dict.Table_bool.Len (some (t, 0)) r = some (l.length : Int) := by
 rw [h.len]
 exact Len_eq h.tab

theorem Mir.put {r : Reg} {t : Nat} {m : Tab} {l x : List Str} (h : Mir r t m l) (hk : ∀ y, y ∈ x → y.length < 1000000) (hf : l.length + x.length < 1000000) :
  ∃ n r' m' l', member.Put (some (t, 0)) x r = some (n, r') ∧ mewsref23.Put l x = some (l', n) ∧ Mir r' t m' l' ∧ l'.length ≤ l.length + x.length ∧ ∀ y, y ∈ l' ↔ y ∈ l ∨ y ∈ x := by
 obtain ⟨n, r', m', a1, a2, a3, a4, a5⟩ := mPut_eq x hk h.tab h.ok (by rw [← h.len]; exact hf)
 obtain ⟨l', n', b1, b2, b3, b4, b5⟩ := rPut_eq l x hf h.asc
 have hmir : Mir r' t m' l' := ⟨a2, a3, b2, fun y => by rw [b3, a4, h.mem]⟩
 have e1 := hmir.len
 have e2 := h.len
 obtain rfl : n' = n := by omega
 exact ⟨n', r', m', l', a1, b1, hmir, b4, b3⟩

theorem Mir.drop {r : Reg} {t : Nat} {m : Tab} {l x : List Str} (h : Mir r t m l) (hk : ∀ y, y ∈ x → y.length < 1000000) (hf : x.length < 1000000) :
  ∃ n r' m' l', member.Drop (some (t, 0)) x r = some (n, r') ∧ mewsref23.Drop l x = some (l', n) ∧ Mir r' t m' l' ∧ l'.length ≤ l.length := by
 have hfew := h.ok.few
 have e2 := h.len
 obtain ⟨n, r', m', a1, a2, a3, a4, a5⟩ := mDrop_eq x hk h.tab h.ok hf
 obtain ⟨l', n', b1, b2, b3, b4⟩ := rDrop_eq l x (by omega) hf h.asc
 have hmir : Mir r' t m' l' := ⟨a2, a3, b2, fun y => by rw [b3, a4, h.mem]⟩
 have e1 := hmir.len
 obtain rfl : n' = n := by omega
 refine ⟨n', r', m', l', a1, b1, hmir, ?_⟩
 exact b2.nodup.length_le_of_subset fun y hy => ((b3 y).1 hy).1

/-! ### MemberNobody -/
theorem put_nobody (key : Str) (r : Reg) : dict.Table_bool.Put none key true r = some (false, r) := rfl
theorem drop_nobody (key : Str) (r : Reg) : dict.Table_bool.Drop none key r = some (false, r) := rfl

theorem mPut_nobody (l : List Str) (hl : l.length < 1000000000000000) : member.Put none l [] = some (0, []) := by
 suffices h : member.Put.loop0 l none ⟨0, 0, []⟩ = some (0, []) by
  unfold member.Put
  rw [h]
  rfl
 unfold member.Put.loop0
 refine whileO_knownE ⟨0, 0, []⟩ (fun i => (⟨0, (i : Int), []⟩ : member.Put.S0)) l.length (fun i hi => ?_) ?_
 ·unfold member.Put.body0
  show (if (i : Int) < (l.length : Int) then _ else _) = _
  rw [if_pos (by omega)]
  show (need (InB (i : Int) l.length) _).bind _ = _
  rw [need_eq ⟨by omega, by omega⟩]
  show some (Sum.inl (⟨0, IntKind.wrap .i64 ((i : Int) + 1), []⟩ : member.Put.S0)) = _
  rw [i64w (by omega) (by omega), show (i : Int) + 1 = ((i + 1 : Nat) : Int) by omega]
 ·unfold member.Put.body0
  exact if_neg (by show ¬ (l.length : Int) < (l.length : Int); omega)

theorem mDrop_nobody (l : List Str) (hl : l.length < 1000000000000000) : member.Drop none l [] = some (0, []) := by
 suffices h : member.Drop.loop0 l none ⟨0, 0, []⟩ = some (0, []) by
  unfold member.Drop
  rw [h]
  rfl
 unfold member.Drop.loop0
 refine whileO_knownE ⟨0, 0, []⟩ (fun i => (⟨0, (i : Int), []⟩ : member.Drop.S0)) l.length (fun i hi => ?_) ?_
 ·unfold member.Drop.body0
  show (if (i : Int) < (l.length : Int) then _ else _) = _
  rw [if_pos (by omega)]
  show (need (InB (i : Int) l.length) _).bind _ = _
  rw [need_eq ⟨by omega, by omega⟩]
  show some (Sum.inl (⟨0, IntKind.wrap .i64 ((i : Int) + 1), []⟩ : member.Drop.S0)) = _
  rw [i64w (by omega) (by omega), show (i : Int) + 1 = ((i + 1 : Nat) : Int) by omega]
 ·unfold member.Drop.body0
  exact if_neg (by show ¬ (l.length : Int) < (l.length : Int); omega)

theorem union_nil : member.Union [] = some [] := member.Union.c_le 100 [] [] (by decide +kernel)
theorem inter_nil : member.Inter [] = some [] := member.Inter.c_le 100 [] [] (by decide +kernel)
theorem diff_nil : member.Diff [] = some [] := member.Diff.c_le 100 [] [] (by decide +kernel)

theorem all_nobody : member.All none [] = some ([], []) := by
 unfold member.All
 rw [show dict.Table_bool.Keys none [] = some ([], []) from rfl, Option.bind_some]
 rw [Sort_eq (l := []) List.nodup_nil List.Pairwise.nil (fun y => Iff.rfl) (by simp)]
 rfl

theorem MemberNobody_pure (l : List Str) (s : Str) (hl : l.length < 1000000000000000) : mewslaw23.MemberNobody l s = some true := by
 obtain ⟨b, e, hb⟩ := far23_one l hl
 unfold mewslaw23.MemberNobody
 rw [e, Option.bind_some, mPut_nobody l hl, alive23]
 generalize hc : (if b = true then some true else some (decide (200 < (s.length : Int))) : Option Bool) = c
 have : ∃ x, c = some x := by
  cases b <;> exact ⟨_, hc.symm⟩
 obtain ⟨x, rfl⟩ := this
 rw [Option.bind_some]
 cases x with
 | true => rfl
 | false =>
  rw [if_neg (by decide), Option.bind_some, if_pos rfl, mDrop_nobody l hl, Option.bind_some, if_pos rfl]
  show ((((member.Has none s []).bind _).bind _) : Option Bool) = _
  rw [show member.Has none s [] = some false from rfl, Option.bind_some, if_pos (by rfl), all_nobody, Option.bind_some, if_pos (by rfl), union_nil, Option.bind_some, if_pos (by rfl), inter_nil, Option.bind_some, if_pos (by rfl), diff_nil, Option.bind_some, if_pos (by rfl)]
  rfl

/-! ### MemberPlays -/
theorem MemberPlays_pure (seed : Int) (l : List mewslaw23.Op) (s : Str) (hl : ∀ o, o ∈ l → o.Members.length < 1000000000000000) : mewslaw23.MemberPlays seed l s = some true := by
 obtain ⟨r0, e0, h0, x0, l0⟩ := New_eq [] seed
 unfold mewslaw23.MemberPlays
 rw [e0, Option.bind_some]
 show (if (if 50 < (l.length : Int) then true else decide (200 < (s.length : Int))) = true then _ else _) = _
 by_cases hg : (if 50 < (l.length : Int) then true else decide (200 < (s.length : Int))) = true
 ·rw [if_pos hg, alive23]; rfl
 ·rw [if_neg hg]
  have hl50 : l.length ≤ 50 := by
   by_cases h : 50 < (l.length : Int)
   ·rw [if_pos h] at hg; exact absurd rfl hg
   ·omega
  have hs : s.length ≤ 200 := by
   rw [if_neg (by omega)] at hg
   simp only [decide_eq_true_eq] at hg
   omega
  have hm0 : Mir r0 1 (Tab.fresh seed 0) [] := ⟨by rw [fresh_all]; exact h0, fresh_ok seed 0, List.Pairwise.nil, fun x => by
   rw [has_iff, fresh_all]
   simp⟩
  have main : ∃ q, mewslaw23.MemberPlays.loop0 l (some (1, 0), r0) s ⟨[], 0, r0⟩ = some q ∧ (q = .inr true ∨ ∃ r mem m, q = .inl (r, mem) ∧ Mir mem 1 m r ∧ r.length ≤ 15000) := by
   unfold mewslaw23.MemberPlays.loop0
   refine whileO_meas (fun t => ∃ (i : Nat) (m : Tab), t.t26 = (i : Int) ∧ i ≤ l.length ∧ Mir t.mem 1 m t.r ∧ t.r.length ≤ i * 300) (fun t => l.length - t.t26.toNat) _ (fun t => ?_) _ ⟨0, _, rfl, by omega, hm0, by simp⟩
   obtain ⟨r, ti, mem⟩ := t
   rintro ⟨i, m, e, hi, hm, hr⟩
   have e : ti = (i : Int) := e
   have hm : Mir mem 1 m r := hm
   have hr : r.length ≤ i * 300 := hr
   subst e
   unfold mewslaw23.MemberPlays.body0
   show (∃ s', (if (i : Int) < (l.length : Int) then _ else _ : Option _) = _ ∧ _) ∨ (∃ s', (if (i : Int) < (l.length : Int) then _ else _ : Option _) = _ ∧ _)
   by_cases hil : i < l.length
   ·rw [if_pos (by omega), need_eq ⟨by show (0 : Int) ≤ (i : Int); omega, by show (i : Int) < (l.length : Int); omega⟩]
    have hix : ix l (i : Int) = l[i] := ix_get hil
    obtain ⟨b, eb, hb⟩ := far23_one l[i].Members (hl _ (List.getElem_mem hil))
    simp only [hix]
    rw [eb, Option.bind_some, alive23]
    cases b with
    | true => exact .inr ⟨_, rfl, .inl rfl⟩
    | false =>
     obtain ⟨hb1, hb2'⟩ := hb rfl
     have hb2 : ∀ y, y ∈ l[i].Members → y.length < 1000000 := fun y hy => by have := hb2' y hy; omega
     rw [if_neg (by decide)]
     have step : ∃ n mem' m' r', (if l[i].Drop = true then
       (member.Drop (some (1, 0)) l[i].Members mem).bind fun r501 => (mewsref23.Drop r l[i].Members).bind fun r502 => some (r502.1, r501.1, r502.2, r501.2)
      else
       (member.Put (some (1, 0)) l[i].Members mem).bind fun r503 => (mewsref23.Put r l[i].Members).bind fun r504 => some (r504.1, r503.1, r504.2, r503.2)) = some (r', n, n, mem') ∧ Mir mem' 1 m' r' ∧ r'.length ≤ (i + 1) * 300 := by
      by_cases hd : l[i].Drop = true
      ·rw [if_pos hd]
       obtain ⟨n, mem', m', r', a1, a2, a3, a4⟩ := hm.drop hb2 (by omega)
       rw [a1, Option.bind_some, a2, Option.bind_some]
       exact ⟨n, mem', m', r', rfl, a3, by omega⟩
      ·rw [if_neg hd]
       obtain ⟨n, mem', m', r', a1, a2, a3, a4, _⟩ := hm.put hb2 (by omega)
       rw [a1, Option.bind_some, a2, Option.bind_some]
       exact ⟨n, mem', m', r', rfl, a3, by omega⟩
     obtain ⟨n, mem', m', r', e1, hm', hr'⟩ := step
     show (∃ s', ((if l[i].Drop = true then
       (member.Drop (some (1, 0)) l[i].Members mem).bind fun r501 => (mewsref23.Drop r l[i].Members).bind fun r502 => some (r502.1, r501.1, r502.2, r501.2)
      else
       (member.Put (some (1, 0)) l[i].Members mem).bind fun r503 => (mewsref23.Put r l[i].Members).bind fun r504 => some (r504.1, r503.1, r504.2, r503.2)) : Option (List Str × Int × Int × Reg)).bind _ = _ ∧ _) ∨ _
     rw [e1, Option.bind_some, if_pos rfl]
     show (∃ s', (((member.All (some (1, 0)) mem').bind _).bind _) = _ ∧ _) ∨ _
     rw [hm'.all, Option.bind_some]
     show (∃ s', (((mewsref02.Same r' r').bind _).bind _) = _ ∧ _) ∨ _
     rw [Same_self r' (by omega), Option.bind_some, if_neg (by decide)]
     show (∃ s', (((member.Has (some (1, 0)) s mem').bind _).bind _) = _ ∧ _) ∨ _
     rw [hm'.hasE (by omega), Option.bind_some]
     show (∃ s', (((mewsref23.Has r' s).bind _).bind _) = _ ∧ _) ∨ _
     rw [rHas_eq _ _ (by omega), Option.bind_some, if_neg (by simp)]
     show (∃ s', (((dict.Table_bool.Len (some (1, 0)) mem').bind _).bind _) = _ ∧ _) ∨ _
     rw [hm'.lenE, Option.bind_some]
     have hw : (IntKind.wrap .i64 ((i : Int) + 1)) = ((i + 1 : Nat) : Int) := by rw [i64w (by omega) (by omega)]; omega
     refine .inl ⟨⟨r', IntKind.wrap .i64 ((i : Int) + 1), mem'⟩, ?_, ⟨i + 1, m', hw, by omega, hm', hr'⟩, ?_⟩
     ·rw [decide_eq_true (show (r'.length : Int) = (r'.length : Int) from rfl)]
      rfl
     ·show l.length - (IntKind.wrap .i64 ((i : Int) + 1)).toNat < l.length - (i : Int).toNat
      rw [hw]; omega
   ·rw [if_neg (by omega)]
    exact .inr ⟨_, rfl, .inr ⟨r, mem, m, rfl, hm, by omega⟩⟩
  obtain ⟨q, hq, h⟩ := main
  show (mewslaw23.MemberPlays.loop0 l (some (1, 0), r0) s ⟨[], 0, r0⟩).bind _ = _
  rw [hq, Option.bind_some]
  rcases h with rfl | ⟨r, mem, m, rfl, hm, hr⟩
  ·rfl
  ·show ((((member.Make (IntKind.wrap .u64 (seed + 1)) r mem).bind _).bind _) : Option Bool) = _
   unfold member.Make
   obtain ⟨r1, e1, h1, x1, l1⟩ := New_eq mem (IntKind.wrap .u64 (seed + 1))
   rw [e1, Option.bind_some]
   have hm1 : Mir r1 (mem.length + 1) (Tab.fresh (IntKind.wrap .u64 (seed + 1)) mem.length) [] := ⟨by rw [fresh_all]; exact h1, fresh_ok _ _, List.Pairwise.nil, fun x => by
    rw [has_iff, fresh_all]
    simp⟩
   have hkeys : ∀ y, y ∈ r → y.length < 1000000 := fun y hy => by
    obtain ⟨x, hx, rfl⟩ := has_iff.1 ((hm.mem y).1 hy)
    exact hm.ok.klen x hx
   show (((((member.Put (some (mem.length + 1, 0)) r r1).bind _).bind _).bind _) : Option Bool) = _
   obtain ⟨n, r2, m2, l2, a1, a2, a3, a4, a5⟩ := hm1.put hkeys (by simp only [List.length_nil]; omega)
   rw [a1, Option.bind_some, Option.bind_some]
   obtain rfl : l2 = r := asc_ext a3.asc hm.asc fun y => (a5 y).trans (by simp)
   show ((((member.All (some (mem.length + 1, 0)) r2).bind _).bind _) : Option Bool) = _
   rw [a3.all, Option.bind_some]
   show ((((mewsref02.Same l2 l2).bind _).bind _) : Option Bool) = _
   rw [Same_self l2 (by omega), Option.bind_some, if_pos rfl, alive23]
   rfl

end Go.Pu

namespace Go.Pu.Pure
open Go.Lift Go.Pu
theorem MemberNobody {a0 : List (List UInt8)} {a1 : List UInt8} (h0 : a0.length * 16 ≤ 140737488351232 ∧ ∀ y0, y0 ∈ a0 → y0.length ≤ 140737488351232) (h1 : a1.length ≤ 140737488351232) : mewslaw23.MemberNobody a0 a1 = some true :=
 MemberNobody_pure a0 a1 (by omega)
theorem MemberPlays {a0 : Int} {a1 : List mewslaw23.Op} {a2 : List UInt8} (h0 : (Lit.int .u64 a0).wf = true) (h1 : a1.length * 32 ≤ 140737488351232 ∧ ∀ y0, y0 ∈ a1 → mewslaw23.Op.wf y0) (h2 : a2.length ≤ 140737488351232) : mewslaw23.MemberPlays a0 a1 a2 = some true :=
 MemberPlays_pure a0 a1 a2 fun o ho => by have := (h1.2 o ho).2.1.1; omega
end Go.Pu.Pure
