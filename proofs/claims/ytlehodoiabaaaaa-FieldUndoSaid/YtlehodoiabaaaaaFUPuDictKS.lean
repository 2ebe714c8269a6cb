/- dict's functions: Keys (its list a vector of one's own). -/
import Derived.Test.YtlehodoiabaaaaaFUPuDict9S
set_option maxHeartbeats 0
namespace Go.Pu
open Go.Lift

def keysOf (l : List Nd) : List (List UInt8) := l.map (·.key)

theorem Keys_half {r : Reg} {t n : Nat} {m : Tab} (h : TabAt r t m n) (hm : m.ok) {s : RS} {c : List (List Nd)} {k : Int} (hs : rsLen s = c.length) (hc : (k = 0 ∧ c = m.c0) ∨ (k ≠ 0 ∧ c = m.c1)) (hcl : c.length < 1000000) (out : List (List UInt8)) (hout : out.length + c.flatten.length < 8000000)
  (o : List (List UInt8)) (mm : Reg) : dict.Table_string.Keys.loop2 s (some (t, 0)) ⟨k, mm, o⟩ ⟨0, r, out⟩ = some (r, out ++ keysOf c.flatten) := by
 have hch : ∀ i, i < c.length → m.chain (decide (k = 0)) (i : Int) = keysOf (c.getD i []) := fun i hi => by
  unfold Tab.chain
  rw [if_neg (by omega), Int.toNat_natCast]
  rcases hc with ⟨rfl, rfl⟩ | ⟨h0, rfl⟩
  ·rfl
  ·rw [decide_eq_false h0]; rfl
 unfold dict.Table_string.Keys.loop2
 refine whileO_knownE _ (fun i => ⟨(i : Int), r, out ++ keysOf (c.take i).flatten⟩) c.length (fun i hi => ?_) ?_ (by simp [keysOf])
 ·unfold dict.Table_string.Keys.body2
  have e1 : c.take (i + 1) = c.take i ++ [c.getD i []] := by
   rw [List.take_add_one, getD_of hi]; rfl
  have hlen : (c.take i).flatten.length + (c.getD i []).length ≤ c.flatten.length := by
   have : (c.take (i + 1)).flatten.length ≤ c.flatten.length := by
    have := congrArg List.length (congrArg List.flatten (List.take_append_drop (i + 1) c))
    rw [List.flatten_append, List.length_append] at this
    omega
   rw [e1, List.flatten_append, List.length_append] at this
   simpa using this
  show (if (i : Int) < (rsLen s : Int) then _ else _) = _
  rw [hs, if_pos (by omega), Chain_eq h hm, Option.bind_some, hch i hi, need_eq (by
   show ((out ++ keysOf (c.take i).flatten).length + (keysOf (c.getD i [])).length) * 16 ≤ _
   simp only [keysOf, List.length_append, List.length_map]
   omega), i64_wrap (show (-9223372036854775808 : Int) ≤ (i : Int) + 1 by omega) (show (i : Int) + 1 < 9223372036854775808 by omega)]
  show some (Sum.inl (⟨(i : Int) + 1, r, (out ++ keysOf (c.take i).flatten) ++ keysOf (c.getD i [])⟩ : dict.Table_string.Keys.S2)) = some (Sum.inl ⟨((i + 1 : Nat) : Int), r, out ++ keysOf (c.take (i + 1)).flatten⟩)
  rw [e1, List.flatten_append, show ((i + 1 : Nat) : Int) = (i : Int) + 1 by omega]
  simp [keysOf]
 ·unfold dict.Table_string.Keys.body2
  show (if (c.length : Int) < (rsLen s : Int) then _ else _) = _
  rw [hs, if_neg (by omega), List.take_length]

theorem Keys_eq {r : Reg} {t n : Nat} {m : Tab} (h : TabAt r t m n) (hm : m.ok) : dict.Table_string.Keys (some (t, 0)) r = some (keysOf m.all, r) := by
 have hfew := hm.few
 have hall : m.all.length = m.c0.flatten.length + m.c1.flatten.length := List.length_append
 have h16 := two_pow_le16 hm.z0.2
 have hc0 : m.c0.length < 1000000 := by rw [hm.l0]; omega
 have hs1 : rLdL r (some (t, 4)) = some (if m.two then slc m.b1 (2 ^ m.s1) else none) := rldL_of (h.ld rfl)
 have hl1 : rsLen (if m.two then slc m.b1 (2 ^ m.s1) else none) = m.c1.length ∧ m.c1.length < 1000000 := by
  by_cases h2 : m.two = true
  ·have := two_pow_le16 (hm.z1 h2).2.1
   rw [h2]
   exact ⟨(hm.l1 h2).symm, by rw [hm.l1 h2]; omega⟩
  ·have h3 : m.two = false := by simpa using h2
   rw [h3, (hm.no1 h3).1]
   exact ⟨rfl, by simp⟩
 unfold dict.Table_string.Keys
 rw [if_noNone]
 unfold dict.Table_string.Keys.loop0
 have b0 : dict.Table_string.Keys.body0 (some (t, 0)) ⟨0, r, []⟩ = some (.inl ⟨1, r, keysOf m.c0.flatten⟩) := by
  unfold dict.Table_string.Keys.body0
  rw [if_pos (show (0 : Int) < 2 by decide)]
  simp only [rpAdd_some, need_isSome]
  rw [need_eq (show InB 0 2 by decide)]
  show ((rLdL r (some (t, 2))).bind _).bind _ = _
  rw [h.ldL0, Option.bind_some, Keys_half h hm (s := slc m.b0 (2 ^ m.s0)) (c := m.c0) hm.l0.symm (.inl ⟨rfl, rfl⟩) hc0 [] (by simp only [List.length_nil]; omega), Option.bind_some]
  rfl
 have b1 : dict.Table_string.Keys.body0 (some (t, 0)) ⟨1, r, keysOf m.c0.flatten⟩ = some (.inl ⟨2, r, keysOf m.all⟩) := by
  unfold dict.Table_string.Keys.body0
  rw [if_pos (show (1 : Int) < 2 by decide)]
  simp only [rpAdd_some, need_isSome]
  rw [need_eq (show InB 1 2 by decide)]
  show ((rLdL r (some (t, 4))).bind _).bind _ = _
  rw [hs1, Option.bind_some, Keys_half h hm (c := m.c1) hl1.1 (.inr ⟨by decide, rfl⟩) hl1.2 _ (by simp only [keysOf, List.length_map]; omega), Option.bind_some]
  show some (Sum.inl (⟨IntKind.wrap .i64 (1 + 1), r, keysOf m.c0.flatten ++ keysOf m.c1.flatten⟩ : dict.Table_string.Keys.S0)) = _
  rw [show keysOf m.c0.flatten ++ keysOf m.c1.flatten = keysOf m.all by simp [keysOf, Tab.all]]
  rfl
 rw [whileO_step b0, whileO_step b1, whileO_ret (r := (keysOf m.all, r)) rfl]
 rfl

end Go.Pu
