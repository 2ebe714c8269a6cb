/- A turn of a table, as data; cursors. -/
import Derived.Test.YtahccieomaopeaaSCPuDictB
set_option maxHeartbeats 0
set_option maxRecDepth 100000
namespace Go.Pu
open Go.Lift

/-! ### Cursors -/

theorem rv_zero (k : Nat) : rv k 0 = 0 := by
 induction k with
 | zero => rfl
 | succ k ih => simp [rv, ih]

theorem rv_pow (k : Nat) : rv k (2 ^ k) = 0 := by rw [← rv_mod, Nat.mod_self, rv_zero]

theorem rv_div (s d n : Nat) : rv (s + d) n / 2 ^ d = rv s n := by
 induction d with
 | zero => simp
 | succ d ih =>
  show (2 * rv (s + d) n + n / 2 ^ (s + d) % 2) / 2 ^ (d + 1) = _
  rw [Nat.pow_succ, Nat.mul_comm (2 ^ d) 2, ← Nat.div_div_eq_div_mul]
  rw [show (2 * rv (s + d) n + n / 2 ^ (s + d) % 2) / 2 = rv (s + d) n by omega, ih]

theorem rv_small (s d c : Nat) (hc : c < 2 ^ s) : rv (s + d) c = 2 ^ d * rv s c := by
 induction d with
 | zero => simp
 | succ d ih =>
  have h1 : 2 ^ s ≤ 2 ^ (s + d) := Nat.pow_le_pow_right (by decide) (by omega)
  show 2 * rv (s + d) c + c / 2 ^ (s + d) % 2 = _
  rw [ih, Nat.div_eq_of_lt (by omega), Nat.pow_succ, Nat.mul_comm (2 ^ d) 2, Nat.mul_assoc]
  rfl

theorem rv_inj {k a b : Nat} (h : rv k a = rv k b) : a % 2 ^ k = b % 2 ^ k := by rw [← rv_rv, ← rv_rv, h]
theorem rv_same {k a b : Nat} (h : a % 2 ^ k = b % 2 ^ k) : rv k a = rv k b := by rw [← rv_mod, h, rv_mod]

theorem rv_nx {s c : Nat} (h : rv s c + 1 < 2 ^ s) : rv s (nx s c) = rv s c + 1 := by
 unfold nx
 rw [rv_rv, Nat.mod_eq_of_lt h]

theorem nx_last {s c : Nat} (h : rv s c + 1 = 2 ^ s) : nx s c = 0 := by
 unfold nx
 rw [h, rv_pow]

theorem nx_ne {s c : Nat} (h : rv s c + 1 < 2 ^ s) : nx s c ≠ 0 := fun e => by
 have := rv_nx h
 rw [e, rv_zero] at this
 omega

/-- Where a key's number lies in the walk of a size. -/
def wk (seed : Int) (s : Nat) (key : List UInt8) : Nat := rv s (ofN seed key).toNat

theorem wk_lt (seed : Int) (s : Nat) (key : List UInt8) : wk seed s key < 2 ^ s := rv_lt _ _

theorem plc_wk {seed : Int} {s c : Nat} {key : List UInt8} : plc seed s key = c % 2 ^ s ↔ wk seed s key = rv s c :=
 ⟨fun h => rv_same h, fun h => rv_inj h⟩

/-! ### Places as filters -/

theorem place_filter' {α : Type} (f : α → Nat) : ∀ (c : List (List α)) (o i : Nat), (∀ j xs, c[j]? = some xs → ∀ x, x ∈ xs → f x = o + j) → c.flatten.filter (fun x => decide (f x = o + i)) = c.getD i []
 | [], o, i, _ => by simp
 | xs :: c, o, i, h => by
  have h0 : ∀ x, x ∈ xs → f x = o := fun x hx => h 0 xs rfl x hx
  have h1 := place_filter' f c (o + 1) (i - 1) (fun j ys hj x hx => by have := h (j + 1) ys (by simpa using hj) x hx; omega)
  rw [List.flatten_cons, List.filter_append]
  cases i with
  | zero =>
   have e1 : xs.filter (fun x => decide (f x = o + 0)) = xs := List.filter_eq_self.2 fun x hx => decide_eq_true (h0 x hx)
   have e2 : c.flatten.filter (fun x => decide (f x = o + 0)) = [] := List.filter_eq_nil_iff.2 fun x hx => by
    obtain ⟨ys, hy, hx⟩ := List.mem_flatten.1 hx
    obtain ⟨j, hj⟩ := List.mem_iff_getElem?.1 hy
    have := h (j + 1) ys (by simpa using hj) x hx
    simp only [decide_eq_true_eq]
    omega
   rw [e1, e2, List.append_nil]
   rfl
  | succ i =>
   have e1 : xs.filter (fun x => decide (f x = o + (i + 1))) = [] := List.filter_eq_nil_iff.2 fun x hx => by
    have := h0 x hx
    simp only [decide_eq_true_eq]
    omega
   rw [e1, List.nil_append]
   rw [show o + (i + 1) = o + 1 + (i + 1 - 1) by omega, h1]
   rfl

theorem place_filter {seed : Int} {k : Nat} {c : List (List Nd)} (h : ∀ i xs, c[i]? = some xs → ∀ x, x ∈ xs → plc seed k x.key = i) (i : Nat) : c.flatten.filter (fun x => decide (plc seed k x.key = i)) = c.getD i [] := by
 have := place_filter' (fun x : Nd => plc seed k x.key) c 0 i (fun j xs hj x hx => by rw [h j xs hj x hx, Nat.zero_add])
 simpa only [Nat.zero_add] using this

theorem filter_or {α : Type} (p q : α → Bool) : ∀ (l : List α), (∀ x, x ∈ l → ¬ (p x = true ∧ q x = true)) → (l.filter (fun x => p x || q x)).Perm (l.filter p ++ l.filter q)
 | [], _ => by simp
 | x :: l, h => by
  have ih := filter_or p q l (fun y hy => h y (List.mem_cons_of_mem _ hy))
  have hx := h x (List.mem_cons_self ..)
  cases hp : p x <;> cases hq : q x
  ·simpa [List.filter_cons, hp, hq] using ih
  ·simp only [List.filter_cons, hp, hq, Bool.false_or, if_true, Bool.false_eq_true, if_false]
   exact (ih.cons x).trans List.perm_middle.symm
  ·simp only [List.filter_cons, hp, hq, Bool.or_false, if_true, Bool.false_eq_true, if_false]
   exact ih.cons x
  ·exact absurd ⟨hp, hq⟩ hx

/-! ### The turn -/

/-- The lesser size. -/
def Tab.tsz (m : Tab) : Nat := if m.two then (if m.s1 < m.s0 then m.s1 else m.s0) else m.s0

theorem tsz_le {m : Tab} (hm : m.ok) : m.tsz ≤ 16 := by
 unfold Tab.tsz
 split
 ·rename_i h
  have := hm.z1 h
  have := hm.z0
  split <;> omega
 ·exact hm.z0.2

theorem tsz_two {m : Tab} (hm : m.ok) (h2 : m.two = true) : (m.tsz = m.s0 ∧ m.s1 = m.s0 + 1) ∨ (m.tsz = m.s1 ∧ m.s0 = m.s1 + 1) := by
 have := hm.z1 h2
 unfold Tab.tsz
 rw [h2, if_pos rfl]
 split <;> omega

def Tab.turn (m : Tab) (c : Nat) : List (List UInt8) :=
 if m.two then
  (m.chain (decide (m.tsz = m.s0)) ((c % 2 ^ m.tsz : Nat) : Int) ++ m.chain (!decide (m.tsz = m.s0)) ((c % 2 ^ m.tsz : Nat) : Int)) ++ m.chain (!decide (m.tsz = m.s0)) ((c % 2 ^ m.tsz + 2 ^ m.tsz : Nat) : Int)
 else m.chain true ((c % 2 ^ m.tsz : Nat) : Int)

theorem chain_nat (m : Tab) (old : Bool) (p : Nat) : m.chain old (p : Int) = keysOf ((if old then m.c0 else m.c1).getD p []) := by
 unfold Tab.chain
 rw [if_neg (by omega), Int.toNat_natCast]
 rfl

theorem keysOf_append (a b : List Nd) : keysOf (a ++ b) = keysOf a ++ keysOf b := List.map_append
theorem keysOf_perm {a b : List Nd} (h : a.Perm b) : (keysOf a).Perm (keysOf b) := h.map _

theorem two_places {seed : Int} {s : Nat} {c : List (List Nd)} (h : ∀ i xs, c[i]? = some xs → ∀ x, x ∈ xs → plc seed (s + 1) x.key = i) (p : Nat) (hp : p < 2 ^ s) :
  (c.flatten.filter (fun x => decide (plc seed s x.key = p))).Perm (c.getD p [] ++ c.getD (p + 2 ^ s) []) := by
 have e : c.flatten.filter (fun x => decide (plc seed s x.key = p)) = c.flatten.filter (fun x => decide (plc seed (s + 1) x.key = p) || decide (plc seed (s + 1) x.key = p + 2 ^ s)) := by
  refine List.filter_congr fun x _ => ?_
  have h1 : plc seed s x.key = plc seed (s + 1) x.key % 2 ^ s := (Nat.mod_mod_of_dvd _ ⟨2, by rw [Nat.pow_succ]⟩).symm
  have h2 : plc seed (s + 1) x.key < 2 ^ (s + 1) := plc_lt _ _ _
  rw [Nat.pow_succ] at h2
  rw [h1]
  generalize plc seed (s + 1) x.key = q at h2
  rw [← Bool.decide_or]
  congr 1
  apply propext
  generalize 2 ^ s = N at hp h2
  by_cases hq : q < N
  ·rw [Nat.mod_eq_of_lt hq]; omega
  ·rw [Nat.mod_eq_sub_mod (by omega), Nat.mod_eq_of_lt (by omega)]; omega
 rw [e]
 refine (filter_or _ _ _ fun x _ hx => ?_).trans (List.Perm.of_eq ?_)
 ·simp only [decide_eq_true_eq] at hx
  have := Nat.two_pow_pos s
  omega
 ·rw [place_filter h, place_filter h]

theorem turn_perm {m : Tab} (hm : m.ok) (c : Nat) : (m.turn c).Perm (keysOf (m.all.filter fun x => decide (wk m.seed m.tsz x.key = rv m.tsz c))) := by
 have e : (m.all.filter fun x => decide (wk m.seed m.tsz x.key = rv m.tsz c)) = m.all.filter fun x => decide (plc m.seed m.tsz x.key = c % 2 ^ m.tsz) :=
  List.filter_congr fun x _ => by congr 1; exact propext plc_wk.symm
 rw [e]
 have hp : c % 2 ^ m.tsz < 2 ^ m.tsz := Nat.mod_lt _ (Nat.two_pow_pos _)
 unfold Tab.turn Tab.all
 rw [List.filter_append, keysOf_append]
 by_cases h2 : m.two = true
 ·rw [if_pos h2]
  rcases tsz_two hm h2 with ⟨h3, h4⟩ | ⟨h3, h4⟩
  ·rw [h3] at hp ⊢
   rw [decide_eq_true (rfl : m.s0 = m.s0), chain_nat, chain_nat, chain_nat, place_filter hm.p0, List.append_assoc]
   have h5 := hm.p1
   rw [h4] at h5
   have h6 := keysOf_perm (two_places h5 _ hp)
   rw [keysOf_append] at h6
   exact h6.symm.append_left _
  ·have h5 : ¬ m.s1 = m.s0 := by omega
   rw [h3] at hp ⊢
   rw [decide_eq_false h5, chain_nat, chain_nat, chain_nat, place_filter hm.p1]
   have h5 := hm.p0
   rw [h4] at h5
   have h6 := keysOf_perm (two_places h5 _ hp)
   rw [keysOf_append] at h6
   rw [List.append_assoc]
   exact List.perm_append_comm.trans (h6.symm.append_right _)
 ·have h3 : m.two = false := by simpa using h2
  rw [if_neg h2, (hm.no1 h3).1]
  have h4 : m.tsz = m.s0 := by unfold Tab.tsz; rw [if_neg h2]
  rw [h4, chain_nat, place_filter hm.p0]
  exact List.Perm.of_eq (by simp [keysOf])

theorem turn_mem {m : Tab} (hm : m.ok) (c : Nat) {k : List UInt8} : k ∈ m.turn c ↔ k ∈ keysOf m.all ∧ wk m.seed m.tsz k = rv m.tsz c := by
 rw [(turn_perm hm c).mem_iff]
 unfold keysOf
 simp only [List.mem_map, List.mem_filter, decide_eq_true_eq]
 constructor
 ·rintro ⟨x, ⟨h1, h2⟩, rfl⟩; exact ⟨⟨x, h1, rfl⟩, h2⟩
 ·rintro ⟨⟨x, h1, rfl⟩, h2⟩; exact ⟨x, ⟨h1, h2⟩, rfl⟩

theorem turn_len {m : Tab} (hm : m.ok) (c : Nat) : (m.turn c).length ≤ m.all.length := by
 rw [(turn_perm hm c).length_eq]
 unfold keysOf
 rw [List.length_map]
 exact List.length_filter_le _ _

theorem Toward_eq {r : Reg} {t n : Nat} {m : Tab} (h : TabAt r t m n) : dict.Table_int.Toward (some (t, 0)) r = some (if m.two then (m.s1 : Int) else -1) := by
 unfold dict.Table_int.Toward
 rw [if_noNone, need_isSome]
 show (((rLdB r (some (t, 6))).bind _).bind _) = _
 rw [h.ldTwo, Option.bind_some, Option.bind_some]
 cases h2 : m.two with
 | false => rfl
 | true =>
  rw [if_neg (show ¬ (!true) = true by decide)]
  simp only [rpAdd_some, need_isSome]
  rw [need_eq (by decide)]
  show (rLdI .i64 r (some (t, 3))).bind _ = _
  rw [h.ldS1]
  rfl

theorem Place_nat {c s : Nat} (hc : c < 2 ^ 64) (hs : s ≤ 16) : hash.Place (c : Int) (s : Int) = some ((c % 2 ^ s : Nat) : Int) := by
 have : kz (s : Int) = s := by have := kz_self (b := (s : Int)) (by omega) (by omega); omega
 rw [Place_eq c _ hc, this]

theorem Next_nat {c s : Nat} (hc : c < 2 ^ 64) (hs : s ≤ 16) : hash.Next (c : Int) (s : Int) = some ((nx s c : Nat) : Int) := by
 have : kz (s : Int) = s := by have := kz_self (b := (s : Int)) (by omega) (by omega); omega
 rw [Next_eq c _ hc, this]

theorem chain_len {m : Tab} (hm : m.ok) (old : Bool) (p : Nat) : (m.chain old (p : Int)).length ≤ m.all.length := by
 rw [chain_nat]
 unfold keysOf
 rw [List.length_map]
 cases old
 ·exact chain_few hm (.inr rfl) p
 ·exact chain_few hm (.inl rfl) p

theorem TurnT_eq {r : Reg} {t n : Nat} {m : Tab} (h : TabAt r t m n) (hm : m.ok) (c : Nat) (hc : c < 2 ^ 64) : scan.Turn_int (some (t, 0)) (c : Int) r = some (((nx m.tsz c : Nat) : Int), m.turn c, r) := by
 have hs := tsz_le hm
 have hfew := hm.few
 unfold scan.Turn_int
 rw [if_noNone, Size_eq' h, Option.bind_some]
 show (dict.Table_int.Toward (some (t, 0)) r).bind _ = _
 rw [Toward_eq h, Option.bind_some]
 by_cases h2 : m.two = true
 ·have e : (if (m.s1 : Int) < (m.s0 : Int) then (m.s1 : Int) else (m.s0 : Int)) = ((m.tsz : Nat) : Int) := by
   unfold Tab.tsz
   rw [if_pos h2]
   by_cases hh : m.s1 < m.s0
   ·rw [if_pos hh, if_pos (by omega)]
   ·rw [if_neg hh, if_neg (by omega)]
  have hd : decide (((m.tsz : Nat) : Int) = (m.s0 : Int)) = decide (m.tsz = m.s0) := by congr 1; apply propext; omega
  rw [if_pos h2, if_neg (by omega)]
  show (hash.Place (c : Int) (if (m.s1 : Int) < (m.s0 : Int) then (m.s1 : Int) else (m.s0 : Int))).bind _ = _
  rw [e, Place_nat hc hs, Option.bind_some]
  show (dict.Table_int.Chain (some (t, 0)) (decide (((m.tsz : Nat) : Int) = (m.s0 : Int))) _ r).bind _ = _
  rw [hd, Chain_eq h hm, Option.bind_some]
  have l1 := chain_len hm (decide (m.tsz = m.s0)) (c % 2 ^ m.tsz)
  have l2 := chain_len hm (!decide (m.tsz = m.s0)) (c % 2 ^ m.tsz)
  have l3 := chain_len hm (!decide (m.tsz = m.s0)) (c % 2 ^ m.tsz + 2 ^ m.tsz)
  have hpl := two_pow_le16 hs
  have hpm : c % 2 ^ m.tsz < 2 ^ m.tsz := Nat.mod_lt _ (Nat.two_pow_pos _)
  have hl : scan.Turn_int.loop0 (some (t, 0)) (m.s1 : Int) ((m.s0 : Int), r) ((c % 2 ^ m.tsz : Nat) : Int) ⟨m.chain (decide (m.tsz = m.s0)) ((c % 2 ^ m.tsz : Nat) : Int), 0, r⟩ = some (m.turn c, r) := by
   unfold scan.Turn_int.loop0
   refine whileO_next (s' := ⟨m.chain (decide (m.tsz = m.s0)) ((c % 2 ^ m.tsz : Nat) : Int) ++ m.chain (!decide (m.tsz = m.s0)) ((c % 2 ^ m.tsz : Nat) : Int), 1, r⟩) ?_ (whileO_next (s' := ⟨m.turn c, 2, r⟩) ?_ (whileO_end ?_))
   ·unfold scan.Turn_int.body0
    rw [if_pos (show (0 : Int) < 2 by decide), need_eq (by show InB 0 2; decide)]
    show (dict.Table_int.Chain (some (t, 0)) (!decide ((if (m.s1 : Int) < (m.s0 : Int) then (m.s1 : Int) else (m.s0 : Int)) = (m.s0 : Int))) ((c % 2 ^ m.tsz : Nat) : Int) r).bind _ = _
    rw [e, hd, Chain_eq h hm, Option.bind_some, need_eq (by show ((m.chain (decide (m.tsz = m.s0)) ((c % 2 ^ m.tsz : Nat) : Int)).length + (m.chain (!decide (m.tsz = m.s0)) ((c % 2 ^ m.tsz : Nat) : Int)).length) * 16 ≤ 140737488355328; omega)]
    rfl
   ·unfold scan.Turn_int.body0
    rw [if_pos (show (1 : Int) < 2 by decide), need_eq (by show InB 1 2; decide)]
    show (dict.Table_int.Chain (some (t, 0)) (!decide ((if (m.s1 : Int) < (m.s0 : Int) then (m.s1 : Int) else (m.s0 : Int)) = (m.s0 : Int))) (IntKind.wrap .i64 (((c % 2 ^ m.tsz : Nat) : Int) + (IntKind.wrap .i64 (1 * 2 ^ min (Int.toNat (if (m.s1 : Int) < (m.s0 : Int) then (m.s1 : Int) else (m.s0 : Int))) (IntKind.bits .i64))))) r).bind _ = _
    rw [e, hd, shl_i64 hs, i64_wrap (by omega) (by omega), show ((c % 2 ^ m.tsz : Nat) : Int) + ((2 ^ m.tsz : Nat) : Int) = ((c % 2 ^ m.tsz + 2 ^ m.tsz : Nat) : Int) by omega, Chain_eq h hm, Option.bind_some, need_eq (by show ((m.chain (decide (m.tsz = m.s0)) ((c % 2 ^ m.tsz : Nat) : Int) ++ m.chain (!decide (m.tsz = m.s0)) ((c % 2 ^ m.tsz : Nat) : Int)).length + (m.chain (!decide (m.tsz = m.s0)) ((c % 2 ^ m.tsz + 2 ^ m.tsz : Nat) : Int)).length) * 16 ≤ 140737488355328; rw [List.length_append]; omega)]
    unfold Tab.turn
    rw [if_pos h2]
    rfl
   ·unfold scan.Turn_int.body0
    exact if_neg (show ¬ (2 : Int) < 2 by decide)
  show ((need ((0 : Int) ≤ ((m.tsz : Nat) : Int)) (scan.Turn_int.loop0 (some (t, 0)) (m.s1 : Int) ((m.s0 : Int), r) ((c % 2 ^ m.tsz : Nat) : Int) ⟨m.chain (decide (m.tsz = m.s0)) ((c % 2 ^ m.tsz : Nat) : Int), 0, r⟩)).bind fun s108 => (hash.Next (c : Int) ((m.tsz : Nat) : Int)).bind fun r139 => some (r139, s108.1, s108.2)) = _
  rw [need_eq (by omega), hl, Option.bind_some, Next_nat hc hs, Option.bind_some]
 ·have h4 : m.tsz = m.s0 := by unfold Tab.tsz; rw [if_neg h2]
  rw [if_neg h2, if_pos (by decide)]
  show (hash.Next (c : Int) (m.s0 : Int)).bind _ = _
  rw [← h4, Next_nat hc hs, Option.bind_some]
  show (hash.Place (c : Int) ((m.tsz : Nat) : Int)).bind _ = _
  rw [Place_nat hc hs, Option.bind_some, Chain_eq h hm, Option.bind_some]
  unfold Tab.turn
  rw [if_neg h2]

/-! ### What chapter 08 asks -/

theorem Has08_eq (l : List (List UInt8)) (s : List UInt8) (hl : l.length < 9223372036854775807) : mewsref08.Has l s = some (decide (s ∈ l)) := by
 have h1 : mewsref08.Has.loop0 l s ⟨0⟩ = some (if l.any (fun x => decide (x = s)) = true then .inr true else .inl ()) := by
  unfold mewsref08.Has.loop0
  refine whileO_anyL (σ := mewsref08.Has.S0) (ρ := Unit ⊕ Bool) _ (fun i => ⟨(i : Int)⟩) l (fun x => decide (x = s)) (.inr true) (.inl ()) (fun i hi => ?_) ?_
  ·unfold mewsref08.Has.body0
   show (if (i : Int) < (l.length : Int) then _ else _) = _
   rw [if_pos (by omega), need_eq ⟨by show (0 : Int) ≤ (i : Int); omega, by show (i : Int) < (l.length : Int); omega⟩]
   show (if ix l (i : Int) = s then _ else _) = _
   rw [ix_get hi]
   by_cases h : l[i] = s
   ·rw [if_pos h, if_pos (decide_eq_true h)]
   ·rw [if_neg h, if_neg (by simpa using h)]
    show some (Sum.inl (⟨IntKind.wrap .i64 ((i : Int) + 1)⟩ : mewsref08.Has.S0)) = _
    rw [i64_wrap (by omega) (by omega), show (i : Int) + 1 = ((i + 1 : Nat) : Int) by omega]
  ·unfold mewsref08.Has.body0
   exact if_neg (by show ¬ (l.length : Int) < (l.length : Int); omega)
 unfold mewsref08.Has
 rw [h1, Option.bind_some]
 by_cases h : s ∈ l
 ·have : l.any (fun x => decide (x = s)) = true := List.any_eq_true.2 ⟨s, h, decide_eq_true rfl⟩
  rw [if_pos this, decide_eq_true h]
  rfl
 ·have : ¬ l.any (fun x => decide (x = s)) = true := fun hh => by
   obtain ⟨x, h1, h2⟩ := List.any_eq_true.1 hh
   exact h (by rw [← of_decide_eq_true h2]; exact h1)
  rw [if_neg this, decide_eq_false h]
  rfl

theorem alive08 : mewslaw08.alive = some true := mewslaw08.alive.c_le 200 true (by decide +kernel)

theorem far08_eq (l : List mewslaw07.Op) (hl : l.length < 1000000000000000) : ∃ b, mewslaw08.far l = some b ∧ (b = false → l.length ≤ 300 ∧ ∀ o, o ∈ l → o.Key.length ≤ 200) := by
 have h1 : mewslaw08.far.loop0 l ⟨0⟩ = some (if l.any (fun o => decide (200 < o.Key.length)) = true then .inr true else .inl ()) := by
  unfold mewslaw08.far.loop0
  refine whileO_anyL (σ := mewslaw08.far.S0) (ρ := Unit ⊕ Bool) _ (fun i => ⟨(i : Int)⟩) l (fun o => decide (200 < o.Key.length)) (.inr true) (.inl ()) (fun i hi => ?_) ?_
  ·unfold mewslaw08.far.body0
   show (if (i : Int) < (l.length : Int) then _ else _) = _
   rw [if_pos (by omega), need_eq ⟨by show (0 : Int) ≤ (i : Int); omega, by show (i : Int) < (l.length : Int); omega⟩]
   show (if 200 < ((ix l (i : Int)).Key.length : Int) then _ else _) = _
   rw [ix_get hi]
   by_cases h : 200 < l[i].Key.length
   ·rw [if_pos (by omega), if_pos (decide_eq_true h)]
   ·rw [if_neg (by omega), if_neg (by simpa using h)]
    show some (Sum.inl (⟨IntKind.wrap .i64 ((i : Int) + 1)⟩ : mewslaw08.far.S0)) = _
    rw [i64_wrap (by omega) (by omega), show (i : Int) + 1 = ((i + 1 : Nat) : Int) by omega]
  ·unfold mewslaw08.far.body0
   exact if_neg (by show ¬ (l.length : Int) < (l.length : Int); omega)
 unfold mewslaw08.far
 rw [h1, Option.bind_some]
 by_cases h : l.any (fun o => decide (200 < o.Key.length)) = true
 ·rw [if_pos h]
  exact ⟨true, rfl, fun e => by cases e⟩
 ·rw [if_neg h]
  refine ⟨decide (300 < (l.length : Int)), rfl, fun e => ?_⟩
  have e := of_decide_eq_false e
  refine ⟨by omega, fun o ho => ?_⟩
  refine Nat.le_of_not_lt fun hgt => h (List.any_eq_true.2 ⟨o, ho, decide_eq_true hgt⟩)

theorem step_seed (m : Tab) : m.step.seed = m.seed := by
 obtain ⟨w1, _⟩ := pour_same (l := m.head) (m := m.take)
 unfold Tab.step
 split
 ·unfold Tab.next
  split <;> exact w1
 ·rfl

theorem put_seed (m : Tab) (key : List UInt8) (v : Int) (b : Nat) : (m.put key v b).seed = m.seed := by
 unfold Tab.put
 split
 ·exact step_seed m
 ·unfold Tab.grow
  have : (m.step.ins ⟨b, key, v⟩).seed = m.seed := by unfold Tab.ins; split <;> exact step_seed m
  split <;> exact this

theorem drop_seed (m : Tab) (key : List UInt8) (b : Nat) : (m.drop key b).seed = m.seed := by
 unfold Tab.drop
 split
 ·unfold Tab.shrink
  split <;> exact step_seed m
 ·exact step_seed m

theorem does08_eq {r : Reg} {t : Nat} {m : Tab} (h : TabAt r t m m.all.length) (hm : m.ok) {o : mewslaw07.Op} (hk : o.Key.length ≤ 200) (hf : m.all.length + 1 < 1000000) :
  ∃ r' m', mewslaw08.does (some (t, 0)) o r = some r' ∧ TabAt r' t m' m'.all.length ∧ m'.ok ∧ m'.seed = m.seed ∧ m'.all.length ≤ m.all.length + 1 ∧ ∀ k, m.has k = true → ¬ (o.Kind = 1 ∧ o.Key = k) → m'.has k = true := by
 have hl : o.Key.length < 1000000 := by omega
 unfold mewslaw08.does
 by_cases k0 : o.Kind = 0
 ·rw [if_pos k0]
  obtain ⟨r', e2, h', x', f'⟩ := Put_eq h hm o.V hl hf
  obtain ⟨ok', _⟩ := put_ok hm o.V r.length hl hf
  have hlen' := put_len hm o.V r.length hl hf
  refine ⟨r', _, by rw [e2]; rfl, h', ok', put_seed _ _ _ _, by rw [hlen']; split <;> omega, fun k hh _ => ?_⟩
  rw [has_get] at hh ⊢
  rw [put_get hm o.V r.length hl hf]
  split
  ·rfl
  ·exact hh
 ·rw [if_neg k0]
  by_cases k1 : o.Kind = 1
  ·rw [if_pos k1]
   obtain ⟨r', e2, h', x', f'⟩ := Drop_eq h hm hl
   obtain ⟨ok', _⟩ := drop_ok hm o.Key r.length
   have hlen' := drop_len hm o.Key r.length
   refine ⟨r', _, by rw [e2]; rfl, h', ok', drop_seed _ _ _, by omega, fun k hh hn => ?_⟩
   rw [has_get] at hh ⊢
   rw [drop_get hm]
   rw [if_neg (fun e => hn ⟨k1, e.symm⟩)]
   exact hh
  ·rw [if_neg k1]
   obtain ⟨r', m', j', e2, h', ok', p', hs', x', f', _⟩ := Step_eq o.V h hm
   exact ⟨r', m', by rw [e2]; rfl, h', ok', hs', by rw [p'.length_eq]; omega, fun k hh _ => by rw [has_perm p']; exact hh⟩

end Go.Pu
