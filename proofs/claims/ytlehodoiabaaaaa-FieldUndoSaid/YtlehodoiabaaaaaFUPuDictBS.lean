/- What a key has, through Put, Drop, and steps; chapter 07's far and alive. -/
import Derived.Test.YtlehodoiabaaaaaFUPuDictKS
set_option maxHeartbeats 0
set_option maxRecDepth 100000
namespace Go.Pu
open Go.Lift

theorem get_iff {m : Tab} (hm : m.ok) {key : List UInt8} {v : (List UInt8)} : m.get key = some v ↔ ∃ x, x ∈ m.all ∧ x.key = key ∧ x.v = v := by
 constructor
 ·intro h
  obtain ⟨x, h1, h2⟩ := Option.map_eq_some_iff.1 h
  exact ⟨x, List.mem_of_find?_eq_some h1, by simpa using List.find?_some h1, h2⟩
 ·rintro ⟨x, h1, rfl, rfl⟩
  exact get_some hm h1

theorem get_none_iff {m : Tab} {key : List UInt8} : m.get key = none ↔ ∀ x, x ∈ m.all → x.key ≠ key := by
 refine ⟨fun h x hx e => ?_, get_none⟩
 have h1 : m.all.find? (fun x => decide (x.key = key)) = none := by
  unfold Tab.get at h
  cases hf : m.all.find? (fun x => decide (x.key = key)) with
  | none => rfl
  | some y => rw [hf] at h; cases h
 have := List.find?_eq_none.1 h1 x hx
 simp [e] at this

theorem get_congr {m m' : Tab} (hm : m.ok) (hm' : m'.ok) (k k' : List UInt8) (h : ∀ v, (∃ x, x ∈ m.all ∧ x.key = k ∧ x.v = v) ↔ ∃ x, x ∈ m'.all ∧ x.key = k' ∧ x.v = v) : m.get k = m'.get k' := by
 cases h1 : m.get k with
 | some v => exact ((get_iff hm').2 ((h v).1 ((get_iff hm).1 h1))).symm
 | none =>
  cases h2 : m'.get k' with
  | none => rfl
  | some v =>
   rw [(get_iff hm).2 ((h v).2 ((get_iff hm').1 h2))] at h1
   cases h1

theorem perm_get' {m m' : Tab} (hm : m.ok) (hm' : m'.ok) (h : m.all.Perm m'.all) (key : List UInt8) : m.get key = m'.get key :=
 get_congr hm hm' key key fun v => ⟨fun ⟨x, h1, h2⟩ => ⟨x, h.mem_iff.1 h1, h2⟩, fun ⟨x, h1, h2⟩ => ⟨x, h.mem_iff.2 h1, h2⟩⟩

theorem has_get {m : Tab} (key : List UInt8) : m.has key = (m.get key).isSome := by
 cases h : m.get key with
 | none =>
  have := get_none_iff.1 h
  cases hh : m.has key with
  | false => rfl
  | true => obtain ⟨x, h1, h2⟩ := has_iff.1 hh; exact absurd h2 (this x h1)
 | some v =>
  obtain ⟨x, h1, h2⟩ := Option.map_eq_some_iff.1 h
  exact has_iff.2 ⟨x, List.mem_of_find?_eq_some h1, by simpa using List.find?_some h1⟩

theorem put_get {m : Tab} (hm : m.ok) {key : List UInt8} (v : (List UInt8)) (b : Nat) (hl : key.length < 1000000) (hf : m.all.length + 1 < 1000000) (k : List UInt8) : (m.put key v b).get k = if k = key then some v else m.get k := by
 obtain ⟨h1, h2⟩ := put_ok hm v b hl hf
 by_cases hh : m.has key = true
 ·rw [if_pos hh] at h2
  obtain ⟨x0, hx0, e0⟩ := has_iff.1 hh
  by_cases hk : k = key
  ·rw [if_pos hk]
   refine (get_iff h1).2 ⟨{ x0 with v := v }, h2.mem_iff.2 (List.mem_map.2 ⟨x0, hx0, by rw [if_pos e0]⟩), ?_, rfl⟩
   rw [hk]; exact e0
  ·rw [if_neg hk]
   refine get_congr h1 hm k k fun w => ⟨?_, ?_⟩
   ·rintro ⟨y, hy, e1, e2⟩
    obtain ⟨z, hz, rfl⟩ := List.mem_map.1 (h2.mem_iff.1 hy)
    by_cases ez : z.key = key
    ·rw [if_pos ez] at e1
     exact absurd (e1.symm.trans ez) hk
    ·rw [if_neg ez] at e1 e2
     exact ⟨z, hz, e1, e2⟩
   ·rintro ⟨z, hz, e1, e2⟩
    exact ⟨z, h2.mem_iff.2 (List.mem_map.2 ⟨z, hz, by rw [if_neg (fun ez => hk (e1.symm.trans ez))]⟩), e1, e2⟩
 ·rw [if_neg hh] at h2
  by_cases hk : k = key
  ·rw [if_pos hk]
   exact (get_iff h1).2 ⟨⟨b, key, v⟩, h2.mem_iff.2 (List.mem_cons_self ..), hk.symm, rfl⟩
  ·rw [if_neg hk]
   refine get_congr h1 hm k k fun w => ⟨?_, ?_⟩
   ·rintro ⟨y, hy, e1, e2⟩
    rcases List.mem_cons.1 (h2.mem_iff.1 hy) with rfl | hy
    ·exact absurd e1.symm hk
    ·exact ⟨y, hy, e1, e2⟩
   ·rintro ⟨z, hz, e1, e2⟩
    exact ⟨z, h2.mem_iff.2 (List.mem_cons_of_mem _ hz), e1, e2⟩

theorem drop_get {m : Tab} (hm : m.ok) (key : List UInt8) (b : Nat) (k : List UInt8) : (m.drop key b).get k = if k = key then none else m.get k := by
 obtain ⟨h1, h2⟩ := drop_ok hm key b
 by_cases hk : k = key
 ·rw [if_pos hk]
  refine get_none fun x hx e => ?_
  have := (List.mem_filter.1 (h2.mem_iff.1 hx)).2
  simp [e, hk] at this
 ·rw [if_neg hk]
  refine get_congr h1 hm k k fun w => ⟨?_, ?_⟩
  ·rintro ⟨y, hy, e⟩
   exact ⟨y, (List.mem_filter.1 (h2.mem_iff.1 hy)).1, e⟩
  ·rintro ⟨z, hz, e1, e2⟩
   exact ⟨z, h2.mem_iff.2 (List.mem_filter.2 ⟨hz, by simp [e1, hk]⟩), e1, e2⟩

theorem put_len {m : Tab} (hm : m.ok) {key : List UInt8} (v : (List UInt8)) (b : Nat) (hl : key.length < 1000000) (hf : m.all.length + 1 < 1000000) : (m.put key v b).all.length = if m.has key then m.all.length else m.all.length + 1 := by
 obtain ⟨h1, h2⟩ := put_ok hm v b hl hf
 by_cases hh : m.has key = true
 ·rw [if_pos hh] at h2 ⊢
  rw [h2.length_eq, List.length_map]
 ·rw [if_neg hh] at h2 ⊢
  rw [h2.length_eq, List.length_cons]

theorem drop_len {m : Tab} (hm : m.ok) (key : List UInt8) (b : Nat) : (m.drop key b).all.length ≤ m.all.length := by
 rw [(drop_ok hm key b).2.length_eq]
 exact List.length_filter_le _ _

end Go.Pu
