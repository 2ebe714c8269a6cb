/- dict's functions: Step, and what tells of a table. -/
import Derived.Test.YtahccieomaopeaaSCPuDict8
set_option maxHeartbeats 0
namespace Go.Pu
open Go.Lift

theorem Len_eq {r : Reg} {t : Nat} {m : Tab} (h : TabAt r t m m.all.length) : dict.Table_int.Len (some (t, 0)) r = some (m.all.length : Int) := by
 unfold dict.Table_int.Len
 rw [if_noNone, need_isSome]
 show (rLdI .i64 r (some (t, 7))).bind _ = _
 rw [h.ldN]
 rfl

theorem Moved_eq {r : Reg} {t n : Nat} {m : Tab} (h : TabAt r t m n) : dict.Table_int.Moved (some (t, 0)) r = some (if m.two then (m.moved : Int) else -1) := by
 unfold dict.Table_int.Moved
 rw [if_noNone, need_isSome]
 show (((rLdB r (some (t, 6))).bind _).bind _) = _
 rw [h.ldTwo, Option.bind_some, Option.bind_some]
 cases h2 : m.two with
 | false => rfl
 | true =>
  rw [if_neg (show ¬ (!true) = true by decide), need_isSome]
  show (rLdI .i64 r (some (t, 5))).bind _ = _
  rw [h.ldMoved]
  rfl

theorem Size_eq' {r : Reg} {t n : Nat} {m : Tab} (h : TabAt r t m n) : dict.Table_int.Size (some (t, 0)) r = some ((m.s0 : Int), r) := by
 unfold dict.Table_int.Size
 rw [ready_eq h, Option.bind_some, if_neg (show ¬ (!true) = true by decide)]
 simp only [rpAdd_some, need_isSome]
 rw [need_eq (by decide), show 0 + 1 + 0 + 0 = 1 from rfl, h.ldS0]
 rfl

/-- How much there is still to be moved. -/
def Tab.left (m : Tab) : Nat := if m.two then 2 ^ m.s0 - m.moved else 0

theorem step_left {m : Tab} (hm : m.ok) (h2 : m.two = true) : m.step.left + 1 ≤ m.left := by
 obtain ⟨e1, e2, e3, e4, e5, e6, e7, e8⟩ := pour_same (l := m.head) (m := m.take)
 have hmv := hm.mv
 unfold Tab.step
 rw [if_pos h2]
 unfold Tab.next
 rw [e7, e2]
 have h3 : m.left = 2 ^ m.s0 - m.moved := by unfold Tab.left; rw [h2]; rfl
 rw [h3]
 by_cases hl : m.moved + 1 = 2 ^ m.s0
 ·rw [if_pos (show m.take.moved + 1 = 2 ^ m.take.s0 from hl)]
  show 0 + 1 ≤ _
  generalize 2 ^ m.s0 = N at hl hmv ⊢
  omega
 ·rw [if_neg (show ¬ m.take.moved + 1 = 2 ^ m.take.s0 from hl)]
  unfold Tab.left
  show (if (m.take.pour m.head).two = true then 2 ^ m.take.s0 - (m.take.moved + 1) else 0) + 1 ≤ _
  rw [e8]
  show (if m.two = true then 2 ^ m.s0 - (m.moved + 1) else 0) + 1 ≤ _
  rw [h2]
  show 2 ^ m.s0 - (m.moved + 1) + 1 ≤ _
  generalize 2 ^ m.s0 = N at hl hmv ⊢
  omega

/-- Steps, as long as the table is parted. -/
theorem Step_loop {t : Nat} {n : Int} : ∀ (k : Nat) {r : Reg} {m : Tab} (j : Nat), m.left ≤ k → j + m.left < 9223372036854775807 → TabAt r t m m.all.length → m.ok →
  ∃ (r' : Reg) (m' : Tab) (j' : Nat), dict.Table_int.Step.loop0 (some (t, 0)) n ⟨j, r⟩ = some ((j' : Int), r') ∧ TabAt r' t m' m'.all.length ∧ m'.ok ∧ m'.all.Perm m.all ∧ m'.seed = m.seed ∧ Ext (m.foot t) r r' ∧ (∀ k, k ∈ m'.foot t → k ∈ m.foot t) ∧
   (m'.two = true → n ≤ j') ∧ j ≤ j' ∧ j' + m'.left ≤ j + m.left ∧ ∀ P : Tab → Prop, (∀ m, P m → P m.step) → P m → P m'
 | k, r, m, j, hk, hj, h, hm => by
  by_cases hn : (j : Int) < n
  ·obtain ⟨r1, e1, h1, x1, len1, sub1⟩ := step_eq h hm
   obtain ⟨hm1, hp1⟩ := step_ok hm
   rw [← hp1.length_eq] at h1
   by_cases h2 : m.two = true
   ·have hl := step_left hm h2
    cases k with
    | zero => omega
    | succ k =>
     obtain ⟨r', m', j', a1, a2, a3, a4, a5, a6, a7, a8, a9, a10, a11⟩ := Step_loop (n := n) k (j + 1) (by omega) (by omega) h1 hm1
     refine ⟨r', m', j', ?_, a2, a3, a4.trans hp1, ?_, ⟨Nat.le_trans x1.len a6.len, fun q hq hqf => (a6.out q (by have := x1.len; omega) (fun hh => hqf (sub1 q hh))).trans (x1.out q hq hqf)⟩, fun q hq => sub1 q (a7 q hq), a8, by omega, by omega, fun P hs hp => a11 P hs (hs m hp)⟩
     ·rw [← a1]
      unfold dict.Table_int.Step.loop0
      refine whileO_step ?_
      unfold dict.Table_int.Step.body0
      rw [if_isSome, if_pos hn, e1, h2]
      have : IntKind.wrap .i64 ((j : Int) + 1) = ((j + 1 : Nat) : Int) := by rw [i64_wrap (by omega) (by omega)]; omega
      show some (Sum.inl (⟨IntKind.wrap .i64 ((j : Int) + 1), r1⟩ : dict.Table_int.Step.S0)) = _
      rw [this]
     ·rw [a5]
      obtain ⟨w1, _⟩ := pour_same (l := m.head) (m := m.take)
      unfold Tab.step
      rw [if_pos h2]
      unfold Tab.next
      split <;> exact w1
   ·have h3 : m.two = false := by simpa using h2
    have hs : m.step = m := by unfold Tab.step; rw [h3]; rfl
    rw [hs] at h1
    refine ⟨r1, m, j, ?_, h1, hm, List.Perm.refl _, rfl, x1, fun q hq => hq, fun hh => absurd hh h2, Nat.le_refl _, Nat.le_refl _, fun P hs hp => hp⟩
    unfold dict.Table_int.Step.loop0
    refine whileO_ret ?_
    unfold dict.Table_int.Step.body0
    rw [if_isSome, if_pos hn, e1, h3]
    rfl
  ·refine ⟨r, m, j, ?_, h, hm, List.Perm.refl _, rfl, Ext.refl _ _, fun q hq => hq, fun _ => by omega, Nat.le_refl _, Nat.le_refl _, fun P hs hp => hp⟩
   unfold dict.Table_int.Step.loop0
   refine whileO_ret ?_
   unfold dict.Table_int.Step.body0
   rw [if_isSome, if_neg hn]
   rfl

theorem left_le {m : Tab} (hm : m.ok) : m.left ≤ 65536 := by
 have := two_pow_le16 hm.z0.2
 unfold Tab.left
 split <;> omega

theorem Step_eq {r : Reg} {t : Nat} {m : Tab} (n : Int) (h : TabAt r t m m.all.length) (hm : m.ok) :
  ∃ (r' : Reg) (m' : Tab) (j' : Nat), dict.Table_int.Step (some (t, 0)) n r = some ((j' : Int), r') ∧ TabAt r' t m' m'.all.length ∧ m'.ok ∧ m'.all.Perm m.all ∧ m'.seed = m.seed ∧ Ext (m.foot t) r r' ∧ (∀ k, k ∈ m'.foot t → k ∈ m.foot t) ∧
   (m'.two = true → n ≤ j') ∧ j' + m'.left ≤ m.left ∧ ∀ P : Tab → Prop, (∀ m, P m → P m.step) → P m → P m' := by
 have := left_le hm
 obtain ⟨r', m', j', a1, a2, a3, a4, a5, a6, a7, a8, a9, a10, a11⟩ := Step_loop (n := n) m.left 0 (Nat.le_refl _) (by omega) h hm
 refine ⟨r', m', j', ?_, a2, a3, a4, a5, a6, a7, a8, by omega, a11⟩
 unfold dict.Table_int.Step
 rw [show (0 : Int) = ((0 : Nat) : Int) from rfl, a1]
 rfl

/-- The keys of a chain. -/
theorem Chain_loop {r : Reg} {b : Bool} : ∀ {xs : List Nd} {p : RP} (out : List (List UInt8)), Chain r p xs → out.length + xs.length < 1000000 → dict.Table_int.Chain.loop0 (b, r) ⟨out, p⟩ = some (out ++ xs.map (·.key))
 | [], p, out, h, _ => by
  obtain rfl : p = none := h
  unfold dict.Table_int.Chain.loop0
  refine whileO_ret ?_
  rw [List.map_nil, List.append_nil]
  rfl
 | x :: xs, p, out, ⟨h1, q, h2, h3⟩, hf => by
  subst h1
  simp only [List.length_cons] at hf
  have e : out ++ (x :: xs).map (·.key) = (out ++ [x.key]) ++ xs.map (·.key) := by simp
  rw [e, ← Chain_loop (xs := xs) (out ++ [x.key]) h3 (by simp; omega)]
  unfold dict.Table_int.Chain.loop0
  refine whileO_step ?_
  unfold dict.Table_int.Chain.body0
  rw [if_isSome, need_isSome, rpAdd_some, show 0 + 0 = 0 from rfl, rldS_of (rld_at h2 rfl), Option.bind_some, need_eq (by show (out.length + [x.key].length) * 16 ≤ _; simp only [List.length_cons, List.length_nil]; omega), rpAdd_some, show 0 + 2 = 2 from rfl, rldP_of (node_next h2)]
  rfl

/-- What Chain tells. -/
def Tab.chain (m : Tab) (old : Bool) (place : Int) : List (List UInt8) :=
 if place < 0 then [] else ((if old then m.c0 else m.c1).getD place.toNat []).map (·.key)

theorem chain_few {m : Tab} (hm : m.ok) {c : List (List Nd)} (hc : c = m.c0 ∨ c = m.c1) (i : Nat) : (c.getD i []).length ≤ m.all.length := by
 by_cases hi : i < c.length
 ·have h1 := getD_of hi
  have hs : (c.getD i []).Sublist c.flatten := List.sublist_flatten_of_mem (List.mem_of_getElem? h1)
  have h2 := hs.length_le
  unfold Tab.all
  rw [List.length_append]
  rcases hc with rfl | rfl <;> omega
 ·rw [show c.getD i [] = [] by simp [List.getD, List.getElem?_eq_none (by omega : c.length ≤ i)]]
  exact Nat.zero_le _

theorem Chain_eq {r : Reg} {t n : Nat} {m : Tab} (h : TabAt r t m n) (hm : m.ok) (old : Bool) (place : Int) : dict.Table_int.Chain (some (t, 0)) old place r = some (m.chain old place, r) := by
 have hfew := hm.few
 have main : ∀ {b k : Nat} {c : List (List Nd)}, Half r b c → c.length = 2 ^ k → (c = m.c0 ∨ c = m.c1) → ∀ bb : Bool,
   (letO (if place < 0 then true else decide (((rsLen (slc b (2 ^ k)) : Nat) : Int) ≤ place)) fun s132 =>
    if s132 = true then some (([] : List (List UInt8)), r) else (need (InB place (rsLen (slc b (2 ^ k)))) <| (rLdP r (rsPtr (slc b (2 ^ k)) place 1)).bind fun r171 => dict.Table_int.Chain.loop0 (bb, r) ⟨([] : List (List UInt8)), r171⟩).bind fun s166 => some (s166, r)) =
   some (if place < 0 then [] else (c.getD place.toNat []).map (·.key), r) := by
  intro b k c hh hl hc bb
  rw [letO_def]
  have e1 : rsLen (slc b (2 ^ k)) = c.length := hl.symm
  rw [e1]
  by_cases h0 : place < 0
  ·rw [if_pos h0, if_pos rfl, if_pos h0]
  ·rw [if_neg h0, if_neg h0]
   by_cases h1 : (c.length : Int) ≤ place
   ·rw [if_pos (decide_eq_true h1), show c.getD place.toNat [] = [] by simp [List.getD, List.getElem?_eq_none (by omega : c.length ≤ place.toNat)]]
    rfl
   ·rw [if_neg (by simpa using h1), need_eq ⟨by omega, by omega⟩]
    obtain ⟨p, h2, h3⟩ := hh.at (i := place.toNat) (by omega)
    have hptr : rsPtr (slc b (2 ^ k)) place 1 = some (b, place.toNat) := by
     show some (b, 0 + place.toNat * 1) = _
     rw [Nat.zero_add, Nat.mul_one]
    have := chain_few hm hc place.toNat
    rw [hptr, rldP_of h2, Option.bind_some, Chain_loop [] h3 (by simp only [List.length_nil]; omega)]
    rfl
 unfold dict.Table_int.Chain
 rw [ready_eq h, Option.bind_some, if_neg (show ¬ (!true) = true by decide)]
 simp only [rpAdd_some, need_isSome]
 cases old with
 | true =>
  rw [if_neg (show ¬ (!true) = true by decide), Option.bind_some, if_neg (show ¬ false = true by decide), need_eq (by decide), show 0 + 1 + 0 + 0 = 1 from rfl, h.ldS0, Option.bind_some, show 0 + 1 + 0 + 1 = 2 from rfl, h.ldL0, Option.bind_some, if_neg (show ¬ (!true) = true by decide), Option.bind_some]
  exact main h.h0 hm.l0 (.inl rfl) false
 | false =>
  rw [if_pos (show (!false) = true from rfl), show 0 + 6 = 6 from rfl, h.ldTwo, Option.bind_some, Option.bind_some]
  by_cases h2 : m.two = true
  ·rw [h2, if_neg (show ¬ (!true) = true by decide), need_eq (by decide), show 0 + 1 + 0 + 0 = 1 from rfl, h.ldS0, Option.bind_some, show 0 + 1 + 0 + 1 = 2 from rfl, h.ldL0, Option.bind_some, if_pos (show (!false) = true from rfl), need_eq (by decide), show 0 + 1 + 2 + 0 = 3 from rfl, h.ldS1, Option.bind_some, show 0 + 1 + 2 + 1 = 4 from rfl, h.ldL1 h2, Option.bind_some, Option.bind_some]
   exact main (h.h1 h2) (hm.l1 h2) (.inr rfl) (!true)
  ·have h3 : m.two = false := by simpa using h2
   rw [h3, if_pos (show (!false) = true from rfl)]
   unfold Tab.chain
   rw [(hm.no1 h3).1]
   simp [List.getD]

end Go.Pu
