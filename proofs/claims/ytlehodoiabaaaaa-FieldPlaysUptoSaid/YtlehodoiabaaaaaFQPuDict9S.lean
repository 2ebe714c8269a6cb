import Derived.Test.YtlehodoiabaaaaaFQPuDict8S
set_option maxHeartbeats 0
namespace Go.Pu
open Go.Lift

/-- How much there is still to be moved. -/
def Tab.left (m : Tab) : Nat := if m.two then 2 ^ m.s0 - m.moved else 0

theorem step_left {m : Tab} (hm : m.ok) (h2 : m.two = true) : m.step.left + 1 ≤ m.left := by
 obtain ⟨e1, e2, e3, e4, e5, e6, e7, e8⟩ := pour_same (l := m.head) (m := m.take)
 have hmv := hm.mv
 unfold Tab.step
 rw [if_pos h2]
 unfold Tab.next
 rw [e7, e2]
 have h3 : m.left = 2 ^ m.s0 - m.moved := by unfold Tab.left; rw [h2]; rfl
 rw [h3]
 by_cases hl : m.moved + 1 = 2 ^ m.s0
 ·rw [if_pos (show m.take.moved + 1 = 2 ^ m.take.s0 from hl)]
  show 0 + 1 ≤ _
  generalize 2 ^ m.s0 = N at hl hmv ⊢
  omega
 ·rw [if_neg (show ¬ m.take.moved + 1 = 2 ^ m.take.s0 from hl)]
  unfold Tab.left
  show (if (m.take.pour m.head).two = true then 2 ^ m.take.s0 - (m.take.moved + 1) else 0) + 1 ≤ _
  rw [e8]
  show (if m.two = true then 2 ^ m.s0 - (m.moved + 1) else 0) + 1 ≤ _
  rw [h2]
  show 2 ^ m.s0 - (m.moved + 1) + 1 ≤ _
  generalize 2 ^ m.s0 = N at hl hmv ⊢
  omega

theorem left_le {m : Tab} (hm : m.ok) : m.left ≤ 65536 := by
 have := two_pow_le16 hm.z0.2
 unfold Tab.left
 split <;> omega

/-- The keys of a chain. -/
theorem Chain_loop {r : Reg} {b : Bool} : ∀ {xs : List Nd} {p : RP} (out : List (List UInt8)), Chain r p xs → out.length + xs.length < 1000000 → dict.Table_string.Chain.loop0 (b, r) ⟨out, p⟩ = some (out ++ xs.map (·.key))
 | [], p, out, h, _ => by
  obtain rfl : p = none := h
  unfold dict.Table_string.Chain.loop0
  refine whileO_ret ?_
  rw [List.map_nil, List.append_nil]
  rfl
 | x :: xs, p, out, ⟨h1, q, h2, h3⟩, hf => by
  subst h1
  simp only [List.length_cons] at hf
  have e : out ++ (x :: xs).map (·.key) = (out ++ [x.key]) ++ xs.map (·.key) := by simp
  rw [e, ← Chain_loop (xs := xs) (out ++ [x.key]) h3 (by simp; omega)]
  unfold dict.Table_string.Chain.loop0
  refine whileO_step ?_
  unfold dict.Table_string.Chain.body0
  rw [if_isSome, need_isSome, rpAdd_some, show 0 + 0 = 0 from rfl, rldS_of (rld_at h2 rfl), Option.bind_some, need_eq (by show (out.length + [x.key].length) * 16 ≤ _; simp only [List.length_cons, List.length_nil]; omega), rpAdd_some, show 0 + 2 = 2 from rfl, rldP_of (node_next h2)]
  rfl

/-- What Chain tells. -/
def Tab.chain (m : Tab) (old : Bool) (place : Int) : List (List UInt8) :=
 if place < 0 then [] else ((if old then m.c0 else m.c1).getD place.toNat []).map (·.key)

theorem chain_few {m : Tab} (hm : m.ok) {c : List (List Nd)} (hc : c = m.c0 ∨ c = m.c1) (i : Nat) : (c.getD i []).length ≤ m.all.length := by
 by_cases hi : i < c.length
 ·have h1 := getD_of hi
  have hs : (c.getD i []).Sublist c.flatten := List.sublist_flatten_of_mem (List.mem_of_getElem? h1)
  have h2 := hs.length_le
  unfold Tab.all
  rw [List.length_append]
  rcases hc with rfl | rfl <;> omega
 ·rw [show c.getD i [] = [] by simp [List.getD, List.getElem?_eq_none (by omega : c.length ≤ i)]]
  exact Nat.zero_le _

theorem Chain_eq {r : Reg} {t n : Nat} {m : Tab} (h : TabAt r t m n) (hm : m.ok) (old : Bool) (place : Int) : dict.Table_string.Chain (some (t, 0)) old place r = some (m.chain old place, r) := by
 have hfew := hm.few
 have main : ∀ {b k : Nat} {c : List (List Nd)}, Half r b c → c.length = 2 ^ k → (c = m.c0 ∨ c = m.c1) → ∀ bb : Bool,
   (letO (if place < 0 then true else decide (((rsLen (slc b (2 ^ k)) : Nat) : Int) ≤ place)) fun s132 =>
    if s132 = true then some (([] : List (List UInt8)), r) else (need (InB place (rsLen (slc b (2 ^ k)))) <| (rLdP r (rsPtr (slc b (2 ^ k)) place 1)).bind fun r171 => dict.Table_string.Chain.loop0 (bb, r) ⟨([] : List (List UInt8)), r171⟩).bind fun s166 => some (s166, r)) =
   some (if place < 0 then [] else (c.getD place.toNat []).map (·.key), r) := by
  intro b k c hh hl hc bb
  rw [letO_def]
  have e1 : rsLen (slc b (2 ^ k)) = c.length := hl.symm
  rw [e1]
  by_cases h0 : place < 0
  ·rw [if_pos h0, if_pos rfl, if_pos h0]
  ·rw [if_neg h0, if_neg h0]
   by_cases h1 : (c.length : Int) ≤ place
   ·rw [if_pos (decide_eq_true h1), show c.getD place.toNat [] = [] by simp [List.getD, List.getElem?_eq_none (by omega : c.length ≤ place.toNat)]]
    rfl
   ·rw [if_neg (by simpa using h1), need_eq ⟨by omega, by omega⟩]
    obtain ⟨p, h2, h3⟩ := hh.at (i := place.toNat) (by omega)
    have hptr : rsPtr (slc b (2 ^ k)) place 1 = some (b, place.toNat) := by
     show some (b, 0 + place.toNat * 1) = _
     rw [Nat.zero_add, Nat.mul_one]
    have := chain_few hm hc place.toNat
    rw [hptr, rldP_of h2, Option.bind_some, Chain_loop [] h3 (by simp only [List.length_nil]; omega)]
    rfl
 unfold dict.Table_string.Chain
 rw [ready_eq h, Option.bind_some, if_neg (show ¬ (!true) = true by decide)]
 simp only [rpAdd_some, need_isSome]
 cases old with
 | true =>
  rw [if_neg (show ¬ (!true) = true by decide), Option.bind_some, if_neg (show ¬ false = true by decide), need_eq (by decide), show 0 + 1 + 0 + 0 = 1 from rfl, h.ldS0, Option.bind_some, show 0 + 1 + 0 + 1 = 2 from rfl, h.ldL0, Option.bind_some, if_neg (show ¬ (!true) = true by decide), Option.bind_some]
  exact main h.h0 hm.l0 (.inl rfl) false
 | false =>
  rw [if_pos (show (!false) = true from rfl), show 0 + 6 = 6 from rfl, h.ldTwo, Option.bind_some, Option.bind_some]
  by_cases h2 : m.two = true
  ·rw [h2, if_neg (show ¬ (!true) = true by decide), need_eq (by decide), show 0 + 1 + 0 + 0 = 1 from rfl, h.ldS0, Option.bind_some, show 0 + 1 + 0 + 1 = 2 from rfl, h.ldL0, Option.bind_some, if_pos (show (!false) = true from rfl), need_eq (by decide), show 0 + 1 + 2 + 0 = 3 from rfl, h.ldS1, Option.bind_some, show 0 + 1 + 2 + 1 = 4 from rfl, h.ldL1 h2, Option.bind_some, Option.bind_some]
   exact main (h.h1 h2) (hm.l1 h2) (.inr rfl) (!true)
  ·have h3 : m.two = false := by simpa using h2
   rw [h3, if_pos (show (!false) = true from rfl)]
   unfold Tab.chain
   rw [(hm.no1 h3).1]
   simp [List.getD]

end Go.Pu
