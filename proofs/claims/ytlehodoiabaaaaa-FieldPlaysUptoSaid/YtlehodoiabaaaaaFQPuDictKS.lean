import Derived.Test.YtlehodoiabaaaaaFQPuDict9S
set_option maxHeartbeats 0
namespace Go.Pu
open Go.Lift

def keysOf (l : List Nd) : List (List UInt8) := l.map (·.key)

theorem Keys_half {r : Reg} {t n : Nat} {m : Tab} (h : TabAt r t m n) (hm : m.ok) {s : RS} {c : List (List Nd)} {k : Int} (hs : rsLen s = c.length) (hc : (k = 0 ∧ c = m.c0) ∨ (k ≠ 0 ∧ c = m.c1)) (hcl : c.length < 1000000) (out : List (List UInt8)) (hout : out.length + c.flatten.length < 8000000)
  (o : List (List UInt8)) (mm : Reg) : dict.Table_string.Keys.loop2 s (some (t, 0)) ⟨k, mm, o⟩ ⟨0, r, out⟩ = some (r, out ++ keysOf c.flatten) := by
 have hch : ∀ i, i < c.length → m.chain (decide (k = 0)) (i : Int) = keysOf (c.getD i []) := fun i hi => by
  unfold Tab.chain
  rw [if_neg (by omega), Int.toNat_natCast]
  rcases hc with ⟨rfl, rfl⟩ | ⟨h0, rfl⟩
  ·rfl
  ·rw [decide_eq_false h0]; rfl
 unfold dict.Table_string.Keys.loop2
 refine whileO_knownE _ (fun i => ⟨(i : Int), r, out ++ keysOf (c.take i).flatten⟩) c.length (fun i hi => ?_) ?_ (by simp [keysOf])
 ·unfold dict.Table_string.Keys.body2
  have e1 : c.take (i + 1) = c.take i ++ [c.getD i []] := by
   rw [List.take_add_one, getD_of hi]; rfl
  have hlen : (c.take i).flatten.length + (c.getD i []).length ≤ c.flatten.length := by
   have : (c.take (i + 1)).flatten.length ≤ c.flatten.length := by
    have := congrArg List.length (congrArg List.flatten (List.take_append_drop (i + 1) c))
    rw [List.flatten_append, List.length_append] at this
    omega
   rw [e1, List.flatten_append, List.length_append] at this
   simpa using this
  show (if (i : Int) < (rsLen s : Int) then _ else _) = _
  rw [hs, if_pos (by omega), Chain_eq h hm, Option.bind_some, hch i hi, need_eq (by
   show ((out ++ keysOf (c.take i).flatten).length + (keysOf (c.getD i [])).length) * 16 ≤ _
   simp only [keysOf, List.length_append, List.length_map]
   omega), i64_wrap (show (-9223372036854775808 : Int) ≤ (i : Int) + 1 by omega) (show (i : Int) + 1 < 9223372036854775808 by omega)]
  show some (Sum.inl (⟨(i : Int) + 1, r, (out ++ keysOf (c.take i).flatten) ++ keysOf (c.getD i [])⟩ : dict.Table_string.Keys.S2)) = some (Sum.inl ⟨((i + 1 : Nat) : Int), r, out ++ keysOf (c.take (i + 1)).flatten⟩)
  rw [e1, List.flatten_append, show ((i + 1 : Nat) : Int) = (i : Int) + 1 by omega]
  simp [keysOf]
 ·unfold dict.Table_string.Keys.body2
  show (if (c.length : Int) < (rsLen s : Int) then _ else _) = _
  rw [hs, if_neg (by omega), List.take_length]

theorem Keys_eq {r : Reg} {t n : Nat} {m : Tab} (h : TabAt r t m n) (hm : m.ok) : dict.Table_string.Keys (some (t, 0)) r = some (keysOf m.all, r) := by
 have hfew := hm.few
 have hall : m.all.length = m.c0.flatten.length + m.c1.flatten.length := List.length_append
 have h16 := two_pow_le16 hm.z0.2
 have hc0 : m.c0.length < 1000000 := by rw [hm.l0]; omega
 have hs1 : rLdL r (some (t, 4)) = some (if m.two then slc m.b1 (2 ^ m.s1) else none) := rldL_of (h.ld rfl)
 have hl1 : rsLen (if m.two then slc m.b1 (2 ^ m.s1) else none) = m.c1.length ∧ m.c1.length < 1000000 := by
  by_cases h2 : m.two = true
  ·have := two_pow_le16 (hm.z1 h2).2.1
   rw [h2]
   exact ⟨(hm.l1 h2).symm, by rw [hm.l1 h2]; omega⟩
  ·have h3 : m.two = false := by simpa using h2
   rw [h3, (hm.no1 h3).1]
   exact ⟨rfl, by simp⟩
 unfold dict.Table_string.Keys
 rw [if_noNone]
 unfold dict.Table_string.Keys.loop0
 have b0 : dict.Table_string.Keys.body0 (some (t, 0)) ⟨0, r, []⟩ = some (.inl ⟨1, r, keysOf m.c0.flatten⟩) := by
  unfold dict.Table_string.Keys.body0
  rw [if_pos (show (0 : Int) < 2 by decide)]
  simp only [rpAdd_some, need_isSome]
  rw [need_eq (show InB 0 2 by decide)]
  show ((rLdL r (some (t, 2))).bind _).bind _ = _
  rw [h.ldL0, Option.bind_some, Keys_half h hm (s := slc m.b0 (2 ^ m.s0)) (c := m.c0) hm.l0.symm (.inl ⟨rfl, rfl⟩) hc0 [] (by simp only [List.length_nil]; omega), Option.bind_some]
  rfl
 have b1 : dict.Table_string.Keys.body0 (some (t, 0)) ⟨1, r, keysOf m.c0.flatten⟩ = some (.inl ⟨2, r, keysOf m.all⟩) := by
  unfold dict.Table_string.Keys.body0
  rw [if_pos (show (1 : Int) < 2 by decide)]
  simp only [rpAdd_some, need_isSome]
  rw [need_eq (show InB 1 2 by decide)]
  show ((rLdL r (some (t, 4))).bind _).bind _ = _
  rw [hs1, Option.bind_some, Keys_half h hm (c := m.c1) hl1.1 (.inr ⟨by decide, rfl⟩) hl1.2 _ (by simp only [keysOf, List.length_map]; omega), Option.bind_some]
  show some (Sum.inl (⟨IntKind.wrap .i64 (1 + 1), r, keysOf m.c0.flatten ++ keysOf m.c1.flatten⟩ : dict.Table_string.Keys.S0)) = _
  rw [show keysOf m.c0.flatten ++ keysOf m.c1.flatten = keysOf m.all by simp [keysOf, Tab.all]]
  rfl
 rw [whileO_step b0, whileO_step b1, whileO_ret (r := (keysOf m.all, r)) rfl]
 rfl

end Go.Pu

set_option maxHeartbeats 0
set_option maxRecDepth 100000
namespace Go.Pu
open Go.Lift

theorem get_iff {m : Tab} (hm : m.ok) {key : List UInt8} {v : (List UInt8)} : m.get key = some v ↔ ∃ x, x ∈ m.all ∧ x.key = key ∧ x.v = v := by
 constructor
 ·intro h
  obtain ⟨x, h1, h2⟩ := Option.map_eq_some_iff.1 h
  exact ⟨x, List.mem_of_find?_eq_some h1, by simpa using List.find?_some h1, h2⟩
 ·rintro ⟨x, h1, rfl, rfl⟩
  exact get_some hm h1

theorem get_none_iff {m : Tab} {key : List UInt8} : m.get key = none ↔ ∀ x, x ∈ m.all → x.key ≠ key := by
 refine ⟨fun h x hx e => ?_, get_none⟩
 have h1 : m.all.find? (fun x => decide (x.key = key)) = none := by
  unfold Tab.get at h
  cases hf : m.all.find? (fun x => decide (x.key = key)) with
  | none => rfl
  | some y => rw [hf] at h; cases h
 have := List.find?_eq_none.1 h1 x hx
 simp [e] at this

theorem get_congr {m m' : Tab} (hm : m.ok) (hm' : m'.ok) (k k' : List UInt8) (h : ∀ v, (∃ x, x ∈ m.all ∧ x.key = k ∧ x.v = v) ↔ ∃ x, x ∈ m'.all ∧ x.key = k' ∧ x.v = v) : m.get k = m'.get k' := by
 cases h1 : m.get k with
 | some v => exact ((get_iff hm').2 ((h v).1 ((get_iff hm).1 h1))).symm
 | none =>
  cases h2 : m'.get k' with
  | none => rfl
  | some v =>
   rw [(get_iff hm).2 ((h v).2 ((get_iff hm').1 h2))] at h1
   cases h1

theorem perm_get' {m m' : Tab} (hm : m.ok) (hm' : m'.ok) (h : m.all.Perm m'.all) (key : List UInt8) : m.get key = m'.get key :=
 get_congr hm hm' key key fun v => ⟨fun ⟨x, h1, h2⟩ => ⟨x, h.mem_iff.1 h1, h2⟩, fun ⟨x, h1, h2⟩ => ⟨x, h.mem_iff.2 h1, h2⟩⟩

theorem has_get {m : Tab} (key : List UInt8) : m.has key = (m.get key).isSome := by
 cases h : m.get key with
 | none =>
  have := get_none_iff.1 h
  cases hh : m.has key with
  | false => rfl
  | true => obtain ⟨x, h1, h2⟩ := has_iff.1 hh; exact absurd h2 (this x h1)
 | some v =>
  obtain ⟨x, h1, h2⟩ := Option.map_eq_some_iff.1 h
  exact has_iff.2 ⟨x, List.mem_of_find?_eq_some h1, by simpa using List.find?_some h1⟩

theorem put_get {m : Tab} (hm : m.ok) {key : List UInt8} (v : (List UInt8)) (b : Nat) (hl : key.length < 1000000) (hf : m.all.length + 1 < 1000000) (k : List UInt8) : (m.put key v b).get k = if k = key then some v else m.get k := by
 obtain ⟨h1, h2⟩ := put_ok hm v b hl hf
 by_cases hh : m.has key = true
 ·rw [if_pos hh] at h2
  obtain ⟨x0, hx0, e0⟩ := has_iff.1 hh
  by_cases hk : k = key
  ·rw [if_pos hk]
   refine (get_iff h1).2 ⟨{ x0 with v := v }, h2.mem_iff.2 (List.mem_map.2 ⟨x0, hx0, by rw [if_pos e0]⟩), ?_, rfl⟩
   rw [hk]; exact e0
  ·rw [if_neg hk]
   refine get_congr h1 hm k k fun w => ⟨?_, ?_⟩
   ·rintro ⟨y, hy, e1, e2⟩
    obtain ⟨z, hz, rfl⟩ := List.mem_map.1 (h2.mem_iff.1 hy)
    by_cases ez : z.key = key
    ·rw [if_pos ez] at e1
     exact absurd (e1.symm.trans ez) hk
    ·rw [if_neg ez] at e1 e2
     exact ⟨z, hz, e1, e2⟩
   ·rintro ⟨z, hz, e1, e2⟩
    exact ⟨z, h2.mem_iff.2 (List.mem_map.2 ⟨z, hz, by rw [if_neg (fun ez => hk (e1.symm.trans ez))]⟩), e1, e2⟩
 ·rw [if_neg hh] at h2
  by_cases hk : k = key
  ·rw [if_pos hk]
   exact (get_iff h1).2 ⟨⟨b, key, v⟩, h2.mem_iff.2 (List.mem_cons_self ..), hk.symm, rfl⟩
  ·rw [if_neg hk]
   refine get_congr h1 hm k k fun w => ⟨?_, ?_⟩
   ·rintro ⟨y, hy, e1, e2⟩
    rcases List.mem_cons.1 (h2.mem_iff.1 hy) with rfl | hy
    ·exact absurd e1.symm hk
    ·exact ⟨y, hy, e1, e2⟩
   ·rintro ⟨z, hz, e1, e2⟩
    exact ⟨z, h2.mem_iff.2 (List.mem_cons_of_mem _ hz), e1, e2⟩

theorem drop_get {m : Tab} (hm : m.ok) (key : List UInt8) (b : Nat) (k : List UInt8) : (m.drop key b).get k = if k = key then none else m.get k := by
 obtain ⟨h1, h2⟩ := drop_ok hm key b
 by_cases hk : k = key
 ·rw [if_pos hk]
  refine get_none fun x hx e => ?_
  have := (List.mem_filter.1 (h2.mem_iff.1 hx)).2
  simp [e, hk] at this
 ·rw [if_neg hk]
  refine get_congr h1 hm k k fun w => ⟨?_, ?_⟩
  ·rintro ⟨y, hy, e⟩
   exact ⟨y, (List.mem_filter.1 (h2.mem_iff.1 hy)).1, e⟩
  ·rintro ⟨z, hz, e1, e2⟩
   exact ⟨z, h2.mem_iff.2 (List.mem_filter.2 ⟨hz, by simp [e1, hk]⟩), e1, e2⟩

theorem put_len {m : Tab} (hm : m.ok) {key : List UInt8} (v : (List UInt8)) (b : Nat) (hl : key.length < 1000000) (hf : m.all.length + 1 < 1000000) : (m.put key v b).all.length = if m.has key then m.all.length else m.all.length + 1 := by
 obtain ⟨h1, h2⟩ := put_ok hm v b hl hf
 by_cases hh : m.has key = true
 ·rw [if_pos hh] at h2 ⊢
  rw [h2.length_eq, List.length_map]
 ·rw [if_neg hh] at h2 ⊢
  rw [h2.length_eq, List.length_cons]

theorem drop_len {m : Tab} (hm : m.ok) (key : List UInt8) (b : Nat) : (m.drop key b).all.length ≤ m.all.length := by
 rw [(drop_ok hm key b).2.length_eq]
 exact List.length_filter_le _ _

end Go.Pu
