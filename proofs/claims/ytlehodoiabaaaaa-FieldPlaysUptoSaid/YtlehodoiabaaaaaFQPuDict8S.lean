import Derived.Test.YtlehodoiabaaaaaFQPuDict7S
set_option maxHeartbeats 0
namespace Go.Pu
open Go.Lift

theorem rsto_ex {r : Reg} {a : Nat × Nat} {v : RV} (h : rLd r (some a) = some v) (w : RV) : ∃ r', rSto r (some a) [w] = some r' := by
 obtain ⟨a', cs, e, h1, h2⟩ := rLd_inv h
 obtain rfl := Option.some.inj e
 have hlt := (List.getElem?_eq_some_iff.1 h2).1
 exact ⟨_, rsto_at h1 (by simp; omega)⟩

/-- What a key has. -/
def Tab.get (m : Tab) (key : List UInt8) : Option (List UInt8) := (m.all.find? fun x => decide (x.key = key)).map (·.v)

theorem get_some {m : Tab} (hm : m.ok) {x : Nd} (hx : x ∈ m.all) : m.get x.key = some x.v := by
 unfold Tab.get
 cases hf : m.all.find? (fun y => decide (y.key = x.key)) with
 | none =>
  have := List.find?_eq_none.1 hf x hx
  simp at this
 | some y =>
  have h1 := List.find?_some hf
  have h2 := List.mem_of_find?_eq_some hf
  rw [key_inj hm h2 hx (by simpa using h1)]
  rfl

theorem get_none {m : Tab} {key : List UInt8} (h : ∀ x, x ∈ m.all → x.key ≠ key) : m.get key = none := by
 unfold Tab.get
 rw [List.find?_eq_none.2 fun x hx => by simp [h x hx]]
 rfl

theorem Get_eq {r : Reg} {t : Nat} {m : Tab} (h : TabAt r t m m.all.length) (hm : m.ok) {key : List UInt8} (hl : key.length < 1000000) :
  dict.Table_string.Get (some (t, 0)) key r = some (match m.get key with | some v => (v, true) | none => ([], false)) := by
 unfold dict.Table_string.Get
 rw [if_isSome]
 simp only [rpAdd_some, need_isSome]
 rw [show 0 + 7 = 7 from rfl, h.ldN, Option.bind_some, Option.bind_some]
 rcases seek_cases h hm key with ⟨s0, s1⟩ | ⟨a, x, s0, hfd⟩
 ·rw [get_none s1]
  by_cases h0 : (0 : Int) < (m.all.length : Int)
  ·rw [if_pos (decide_eq_true h0), find_eq h hm (by omega), Option.bind_some, s0, if_noSome]
   rfl
  ·rw [if_neg (by simpa using h0)]
   rfl
 ·have hg := get_some hm hfd.mem
  rw [hfd.key] at hg
  rw [hg]
  have hpos : 0 < m.all.length := List.length_pos_of_mem hfd.mem
  obtain ⟨q, hx⟩ := hfd.node
  rw [if_pos (decide_eq_true (by omega)), find_eq h hm (by omega), Option.bind_some, s0, if_isSome, need_isSome, rldP_of hfd.at_, Option.bind_some, need_isSome]
  show (((rLdS r (some (x.id, 1))).bind _).bind _) = _
  rw [rldS_of (rld_at hx rfl), Option.bind_some]
  rfl

def Tab.shrink (m : Tab) (b : Nat) : Tab := if m.two = false ∧ 2 < m.s0 ∧ 8 * m.all.length < 2 ^ m.s0 then m.part b (m.s0 - 1) else m
def Tab.drop (m : Tab) (key : List UInt8) (b : Nat) : Tab := if m.step.has key then (m.step.del key).shrink b else m.step

theorem shrink_all {m : Tab} (hm : m.ok) (b : Nat) : (m.shrink b).all = m.all := by
 unfold Tab.shrink
 split
 ·rename_i h; exact part_all hm h.1 _ _
 ·rfl
theorem shrink_ok {m : Tab} (hm : m.ok) (b : Nat) : (m.shrink b).ok := by
 unfold Tab.shrink
 split
 ·rename_i h; exact part_ok hm h.1 b (by have := hm.z0; omega)
 ·exact hm

theorem del_len {m : Tab} (hm : m.ok) {x : Nd} (hx : x ∈ m.all) : (m.del x.key).all.length + 1 = m.all.length := by
 rw [del_all]
 have h1 := List.length_eq_countP_add_countP (l := m.all) (p := fun y : Nd => decide (y.key = x.key))
 have h2 : List.countP (fun y : Nd => decide (y.key = x.key)) m.all = 1 := by
  have h3 := List.Nodup.count (a := x.key) hm.keys
  rw [if_pos (List.mem_map.2 ⟨x, hx, rfl⟩)] at h3
  rw [List.count, List.countP_map] at h3
  rw [← h3]
  refine List.countP_congr fun y _ => ?_
  simp
 have h4 : (m.all.filter fun y => !decide (y.key = x.key)).length = List.countP (fun y : Nd => ¬ decide (y.key = x.key) = true) m.all := by
  rw [List.countP_eq_length_filter]
  congr 1
  refine List.filter_congr fun y _ => ?_
  by_cases e : y.key = x.key <;> simp [e]
 rw [h4]
 omega

theorem drop_ok {m : Tab} (hm : m.ok) (key : List UInt8) (b : Nat) : (m.drop key b).ok ∧ (m.drop key b).all.Perm (m.all.filter fun x => !decide (x.key = key)) := by
 obtain ⟨h1, h2⟩ := step_ok hm
 unfold Tab.drop
 by_cases hh : m.step.has key = true
 ·rw [if_pos hh]
  exact ⟨shrink_ok (del_ok h1 key) b, by rw [shrink_all (del_ok h1 key), del_all]; exact h2.filter _⟩
 ·rw [if_neg hh]
  have h3 : m.has key = false := by rw [has_perm h2 key] at hh; simpa using hh
  exact ⟨h1, by rw [filter_self (not_has h3)]; exact h2⟩

theorem Drop_eq {r : Reg} {t : Nat} {m : Tab} (h : TabAt r t m m.all.length) (hm : m.ok) {key : List UInt8} (hl : key.length < 1000000) :
  ∃ r', dict.Table_string.Drop (some (t, 0)) key r = some (m.has key, r') ∧ TabAt r' t (m.drop key r.length) (m.drop key r.length).all.length ∧ Ext (m.foot t) r r' ∧ (∀ k, k ∈ (m.drop key r.length).foot t → k ∈ m.foot t ∨ r.length ≤ k) := by
 obtain ⟨r1, e1, h1, x1, len1, sub1⟩ := step_eq h hm
 obtain ⟨hm1, hp1⟩ := step_ok hm
 have hlen1 := hp1.length_eq
 have hhas := has_perm hp1 key
 unfold dict.Table_string.Drop
 rw [ready_eq h, Option.bind_some, if_neg (show ¬ (!true) = true by decide), e1, Option.bind_some, find_eq h1 hm1 (by omega), Option.bind_some]
 unfold Tab.drop
 rw [hhas]
 rcases seek_cases h1 hm1 key with ⟨s0, s1⟩ | ⟨a, x, s0, hfd⟩
 ·have hh : m.has key = false := by
   cases hb : m.has key with
   | false => rfl
   | true =>
    rw [← hhas] at hb
    obtain ⟨y, hy, e⟩ := has_iff.1 hb
    exact absurd e (s1 y hy)
  rw [s0, hh, if_isNone, if_neg (show ¬ false = true by decide)]
  exact ⟨r1, rfl, by rw [hlen1]; exact h1, x1, fun k hk => .inl (sub1 k hk)⟩
 ·have hh : m.has key = true := by rw [← hhas]; exact has_iff.2 ⟨x, hfd.mem, hfd.key⟩
  obtain ⟨q, hx⟩ := hfd.node
  obtain ⟨r2, e2⟩ := rsto_ex hfd.at_ (.pt q)
  obtain ⟨h2, x2, len2⟩ := del_eq h1 hm1 hfd hx e2
  have hmd := del_ok hm1 key
  have hdl : (m.step.del key).all.length + 1 = m.all.length := by
   rw [← hfd.key, del_len hm1 hfd.mem, hlen1]
  have hsubd : ∀ k, k ∈ (m.step.del key).foot t → k ∈ m.foot t := fun k hk => by
   refine sub1 k ?_
   have : k ∈ t :: m.step.blocks ++ ids (m.step.del key).all := hk
   rw [del_all] at this
   rcases List.mem_append.1 this with h5 | h5
   ·exact List.mem_append_left _ h5
   ·exact List.mem_append_right _ ((List.filter_sublist.map _).mem h5)
  have hout2 : ∀ k, k < r.length → k ∉ m.foot t → r2[k]? = r[k]? := fun k hk hkf => by
   rw [x2.out k (by omega) (fun hj => hkf (sub1 k hj))]
   exact x1.out k hk hkf
  rw [hh, if_pos rfl, s0, if_noNone, need_isSome, rldP_of hfd.at_, Option.bind_some, need_isSome, rpAdd_some, show 0 + 2 = 2 from rfl, rldP_of (node_next hx), Option.bind_some, e2, Option.bind_some]
  generalize hM : m.step.del key = M at h2 hmd hdl hsubd
  have e3 := rsto_at (vs := [.it .i64 ((m.all.length : Int) - 1)]) (j := 7) h2.tab (by simp [Tab.cells])
  generalize hr3 : r2.set t (splice (M.cells m.all.length) 7 [.it .i64 ((m.all.length : Int) - 1)]) = r3 at e3
  obtain ⟨k31, k32, k33, k34⟩ := rsto_one e3
  have hfew := hm.few
  have hcast : ((m.all.length : Int) - 1) = (M.all.length : Int) := by omega
  have h3 : TabAt r3 t M M.all.length := h2.retab k32 (by rw [(k34 _ h2.tab).1, hcast]; rfl) rfl rfl rfl rfl rfl
  have hout3 : ∀ k, k < r.length → k ∉ m.foot t → r3[k]? = r[k]? := fun k hk hkf => by
   rw [k32 k (fun e => hkf (by simp [Tab.foot, e]))]
   exact hout2 k hk hkf
  have hwrap : IntKind.wrap .i64 ((m.all.length : Int) - 1) = (m.all.length : Int) - 1 := i64_wrap (by omega) (by omega)
  have hz := hmd.z0
  have hpow := two_pow_le16 hz.2
  have hw8 : IntKind.wrap .i64 (8 * (M.all.length : Int)) = 8 * (M.all.length : Int) := i64_wrap (by omega) (by omega)
  simp only [rpAdd_some, need_isSome]
  rw [show 0 + 7 = 7 from rfl, h2.ldN, Option.bind_some, hwrap, e3, Option.bind_some, need_eq (by decide), show 0 + 1 + 0 + 0 = 1 from rfl, h3.ldS0, Option.bind_some, show 0 + 1 + 0 + 1 = 2 from rfl, h3.ldL0, Option.bind_some, show 0 + 6 = 6 from rfl, h3.ldTwo, Option.bind_some, h3.ldN]
  by_cases hg : M.two = false ∧ 2 < M.s0 ∧ 8 * M.all.length < 2 ^ M.s0
  ·obtain ⟨r4, b1, b2, b3, b4⟩ := part_eq h3 hmd hg.1 (s := M.s0 - 1) (by omega)
   have hgr : M.shrink r.length = M.part r3.length (M.s0 - 1) := by unfold Tab.shrink; rw [if_pos hg, k33, len2, len1]
   have hpa := part_all hmd hg.1 r3.length (M.s0 - 1)
   have hwr : IntKind.wrap .i64 ((M.s0 : Int) - 1) = ((M.s0 - 1 : Nat) : Int) := by rw [i64_wrap (by omega) (by omega)]; omega
   have hlt8 : 8 * (M.all.length : Int) < ((rsLen (slc M.b0 (2 ^ M.s0)) : Nat) : Int) := by
    show 8 * (M.all.length : Int) < ((2 ^ M.s0 : Nat) : Int)
    have := hg.2.2
    generalize 2 ^ M.s0 = N at this
    omega
   rw [hg.1, if_pos (show (!false) = true from rfl), if_pos (show (2 : Int) < (M.s0 : Int) by omega), Option.bind_some, Option.bind_some, hw8, if_pos (decide_eq_true hlt8), hwr, b1, hgr]
   refine ⟨r4, rfl, by rw [hpa]; exact b2, ⟨by omega, fun k hk hkf => ?_⟩, fun k hk => ?_⟩
   ·have hkt : k ≠ t := fun e => hkf (by simp [Tab.foot, e])
    rw [b3.out k (by omega) (by simpa using hkt)]
    exact hout3 k hk hkf
   ·have hk2 : k ∈ t :: [M.b0, r3.length] ++ ids (M.part r3.length (M.s0 - 1)).all := hk
    rw [hpa] at hk2
    by_cases he : k = r3.length
    ·exact .inr (by omega)
    ·refine .inl (hsubd k ?_)
     have e9 : M.foot t = t :: ([M.b0] ++ ids M.all) := by simp [Tab.foot, Tab.blocks, hg.1]
     rw [e9]
     simp only [List.cons_append, List.mem_cons, List.nil_append] at hk2 ⊢
     rcases hk2 with rfl | rfl | rfl | hk2
     ·exact .inl rfl
     ·exact .inr (.inl rfl)
     ·exact absurd rfl he
     ·exact .inr (.inr hk2)
  ·have hgr : M.shrink r.length = M := by unfold Tab.shrink; rw [if_neg hg]
   rw [hgr]
   refine ⟨r3, ?_, h3, ⟨by omega, hout3⟩, fun k hk => .inl (hsubd k hk)⟩
   have hcond : ((if (!M.two) = true then (if (2 : Int) < (M.s0 : Int) then (some (M.all.length : Int)).bind fun r100 => some (decide (IntKind.wrap .i64 (8 * r100) < ((rsLen (slc M.b0 (2 ^ M.s0)) : Nat) : Int))) else some false) else some false) : Option Bool) = some false := by
    by_cases g1 : M.two = true
    ·rw [g1]; rfl
    ·have g1' : M.two = false := by simpa using g1
     rw [g1', if_pos (show (!false) = true from rfl)]
     by_cases g2 : 2 < M.s0
     ·rw [if_pos (show (2 : Int) < (M.s0 : Int) by omega), Option.bind_some, hw8]
      have : ¬ 8 * (M.all.length : Int) < ((rsLen (slc M.b0 (2 ^ M.s0)) : Nat) : Int) := fun g3 => hg ⟨g1', g2, by
       have g3 : 8 * (M.all.length : Int) < ((2 ^ M.s0 : Nat) : Int) := g3
       generalize 2 ^ M.s0 = N at g3 ⊢
       omega⟩
      simp [this]
     ·rw [if_neg (show ¬ (2 : Int) < (M.s0 : Int) by omega)]
   rw [hcond]
   rfl

end Go.Pu
