/- Chapter 23 over tables: the reference's lists that rise (much of it stands in PuMem1), far, alive. -/
import Derived.Test.YtjbphnophcpdeaaMBPuDictBB
import Derived.Test.YtjbphnophcpdeaaMBC
set_option maxHeartbeats 0
set_option maxRecDepth 100000
namespace Go.Pu
open Go.Lift

abbrev Str := List UInt8

/-- A loop with something that gets less. -/
theorem whileO_meas {σ ρ : Type} {body : σ → Option (σ ⊕ ρ)} (st : σ → Prop) (μ : σ → Nat) (Q : ρ → Prop)
  (h : ∀ s, st s → (∃ s', body s = some (.inl s') ∧ st s' ∧ μ s' < μ s) ∨ (∃ r, body s = some (.inr r) ∧ Q r)) (s : σ) (h0 : st s) : ∃ r, whileO body s = some r ∧ Q r := by
 have : ∀ n s, μ s ≤ n → st s → ∃ r, whileO body s = some r ∧ Q r := by
  intro n
  induction n with
  | zero =>
   intro s hn hs
   rcases h s hs with ⟨s', _, _, h3⟩ | ⟨r, h1, h2⟩
   ·omega
   ·exact ⟨r, whileO_end h1, h2⟩
  | succ n ih =>
   intro s hn hs
   rcases h s hs with ⟨s', h1, h2, h3⟩ | ⟨r, h1, h2⟩
   ·obtain ⟨r, h4, h5⟩ := ih s' (by omega) h2
    exact ⟨r, whileO_next h1 h4, h5⟩
   ·exact ⟨r, whileO_end h1, h2⟩
 exact this (μ s) s (Nat.le_refl _) h0

/-! ### The order of bytes -/
theorem strLt_cons (a b : UInt8) (x y : Str) : strLt (a :: x) (b :: y) = (decide (a < b) || (a == b && strLt x y)) := rfl
theorem strLt_nil (x : Str) : strLt x [] = false := by cases x <;> rfl

theorem strLt_irrefl : ∀ x : Str, strLt x x = false
 | [] => rfl
 | a :: x => by rw [strLt_cons, strLt_irrefl x]; simp [UInt8.lt_irrefl]

theorem strLt_trans : ∀ {x y z : Str}, strLt x y = true → strLt y z = true → strLt x z = true
 | x, y, [], _, h => by simp [strLt_nil] at h
 | x, [], _ :: _, h, _ => by simp [strLt_nil] at h
 | [], _ :: _, _ :: _, _, _ => rfl
 | a :: x, b :: y, c :: z, h1, h2 => by
  rw [strLt_cons] at *
  simp only [Bool.or_eq_true, decide_eq_true_eq, Bool.and_eq_true, beq_iff_eq] at *
  rcases h1 with h1 | ⟨h1, h1'⟩
  ·rcases h2 with h2 | ⟨h2, _⟩
   ·exact .inl (UInt8.lt_trans h1 h2)
   ·exact .inl (h2 ▸ h1)
  ·rcases h2 with h2 | ⟨h2, h2'⟩
   ·exact .inl (h1 ▸ h2)
   ·exact .inr ⟨h1.trans h2, strLt_trans h1' h2'⟩

theorem strLt_tri : ∀ x y : Str, x = y ∨ strLt x y = true ∨ strLt y x = true
 | [], [] => .inl rfl
 | [], _ :: _ => .inr (.inl rfl)
 | _ :: _, [] => .inr (.inr rfl)
 | a :: x, b :: y => by
  rw [strLt_cons, strLt_cons]
  simp only [Bool.or_eq_true, decide_eq_true_eq, Bool.and_eq_true, beq_iff_eq]
  by_cases h : a = b
  ·subst h
   rcases strLt_tri x y with h | h | h
   ·exact .inl (by rw [h])
   ·exact .inr (.inl (.inr ⟨rfl, h⟩))
   ·exact .inr (.inr (.inr ⟨rfl, h⟩))
  ·by_cases h1 : a < b
   ·exact .inr (.inl (.inl h1))
   ·refine .inr (.inr (.inl ?_))
    have h2 : b ≤ a := UInt8.not_lt.1 h1
    exact UInt8.lt_of_le_of_ne h2 (fun e => h e.symm)

theorem strLt_asymm {x y : Str} (h : strLt x y = true) : strLt y x = false := by
 cases h2 : strLt y x with
 | false => rfl
 | true => have := strLt_trans h h2; rw [strLt_irrefl] at this; cases this

/-! ### Lists that rise -/
def Asc (l : List Str) : Prop := l.Pairwise fun a b => strLt a b = true

theorem Asc.nodup {l : List Str} (h : Asc l) : l.Nodup := h.imp fun {a b} h e => by subst e; rw [strLt_irrefl] at h; cases h

theorem asc_ext : ∀ {a b : List Str}, Asc a → Asc b → (∀ x, x ∈ a ↔ x ∈ b) → a = b
 | [], [], _, _, _ => rfl
 | [], y :: b, _, _, h => by have := (h y).2 (by simp); simp at this
 | x :: a, [], _, _, h => by have := (h x).1 (by simp); simp at this
 | x :: a, y :: b, ha, hb, h => by
  have ha' := List.pairwise_cons.1 ha
  have hb' := List.pairwise_cons.1 hb
  have e : x = y := by
   rcases List.mem_cons.1 ((h x).1 (by simp)) with e | e
   ·exact e
   ·rcases List.mem_cons.1 ((h y).2 (by simp)) with e2 | e2
    ·exact e2.symm
    ·have h1 := hb'.1 x e
     have h2 := ha'.1 y e2
     rw [strLt_asymm h1] at h2; cases h2
  subst e
  congr 1
  refine asc_ext ha'.2 hb'.2 fun z => ?_
  constructor
  ·intro hz
   rcases List.mem_cons.1 ((h z).1 (by simp [hz])) with e | e
   ·subst e; have := ha'.1 z hz; rw [strLt_irrefl] at this; cases this
   ·exact e
  ·intro hz
   rcases List.mem_cons.1 ((h z).2 (by simp [hz])) with e | e
   ·subst e; have := hb'.1 z hz; rw [strLt_irrefl] at this; cases this
   ·exact e

theorem Asc.get {l : List Str} (h : Asc l) {i j : Nat} (hij : i < j) (hj : j < l.length) : strLt (l[i]'(by omega)) l[j] = true :=
 List.pairwise_iff_getElem.1 h i j (by omega) hj hij

/-! ### The reference's words -/
theorem rHas_eq (l : List Str) (s : Str) (hl : l.length < 9223372036854775807) : mewsref23.Has l s = some (decide (s ∈ l)) := by
 unfold mewsref23.Has mewsref23.Has.loop0
 rw [whileO_idxE ⟨0⟩ (fun i => (⟨(i : Int)⟩ : mewsref23.Has.S0)) l (fun t => decide (t = s)) (fun i => .inr true) (.inl ()) ?_ ?_]
 ·have h := idxF_isSome (p := fun t : Str => decide (t = s)) (xs := l) (j := 0)
  have e : (decide (s ∈ l)) = l.any (fun t => decide (t = s)) := by
   by_cases hs : s ∈ l
   ·simp [hs]
   ·rw [decide_eq_false hs]; symm
    rw [List.any_eq_false]
    intro x hx hc
    rw [decide_eq_true_eq] at hc
    exact hs (hc ▸ hx)
  cases hx : idxF (fun t : Str => decide (t = s)) l 0 with
  | some i => rw [hx] at h; rw [e, ← h]; rfl
  | none => rw [hx] at h; rw [e, ← h]; rfl
 ·intro i hi
  unfold mewsref23.Has.body0
  simp only
  rw [if_pos (by omega), need_eq ⟨by omega, by omega⟩, ix_get hi, i64w (by omega) (by omega)]
  simp only [decide_eq_true_eq]
  split <;> simp
 ·unfold mewsref23.Has.body0
  simp

theorem rWith_eq (l : List Str) (s : Str) (hl : l.length < 1000000) (ha : Asc l) (hs : s ∉ l) :
  ∃ r, mewsref19.With l s = some r ∧ Asc r ∧ (∀ x, x ∈ r ↔ x ∈ l ∨ x = s) ∧ r.length = l.length + 1 := by
 obtain ⟨r, h1, i, h2, h3, h4, h5⟩ : ∃ r, mewsref19.With.loop0 l s ⟨0⟩ = some r ∧ ∃ i : Nat, r = (i : Int) ∧ i ≤ l.length ∧ (∀ x ∈ l.take i, strLt x s = true) ∧ (∀ x ∈ l.drop i, strLt s x = true) := by
  unfold mewsref19.With.loop0
  refine whileO_meas (fun t => ∃ i : Nat, t.i = (i : Int) ∧ i ≤ l.length ∧ ∀ x ∈ l.take i, strLt x s = true) (fun t => l.length - t.i.toNat) _ (fun t => ?_) _ ⟨0, rfl, by omega, by simp⟩
  rintro ⟨i, e, hi, hlt⟩
  unfold mewsref19.With.body0
  rw [e]
  by_cases hc : i < l.length
  ·rw [if_pos (by omega), need_eq ⟨by omega, by omega⟩, ix_get hc]
   simp only [Option.bind_some]
   by_cases hlt2 : strLt l[i] s = true
   ·rw [if_pos hlt2]
    refine .inl ⟨_, rfl, ⟨i + 1, ?_, by omega, ?_⟩, ?_⟩
    ·show IntKind.wrap .i64 ((i : Int) + 1) = ((i + 1 : Nat) : Int)
     rw [i64w (by omega) (by omega)]; omega
    ·intro x hx
     rw [List.take_add_one, List.getElem?_eq_getElem hc] at hx
     rcases List.mem_append.1 hx with hx | hx
     ·exact hlt x hx
     ·simp at hx; subst hx; exact hlt2
    ·show l.length - (IntKind.wrap .i64 ((i : Int) + 1)).toNat < l.length - (i : Int).toNat
     rw [i64w (by omega) (by omega)]; omega
   ·rw [if_neg hlt2]
    refine .inr ⟨_, rfl, i, rfl, by omega, hlt, ?_⟩
    intro x hx
    have h1 : strLt s l[i] = true := by
     rcases strLt_tri l[i] s with h | h | h
     ·exact absurd (h ▸ List.getElem_mem hc) hs
     ·exact absurd h hlt2
     ·exact h
    obtain ⟨j, hj, rfl⟩ := List.mem_iff_getElem.1 hx
    rw [List.getElem_drop]
    by_cases j0 : j = 0
    ·subst j0; simpa using h1
    ·exact strLt_trans h1 (ha.get (by omega) (by simp at hj; omega))
  ·rw [if_neg (by omega)]
   refine .inr ⟨_, rfl, i, rfl, by omega, hlt, ?_⟩
   intro x hx
   rw [List.drop_eq_nil_of_le (by omega)] at hx
   simp at hx
 subst h2
 unfold mewsref19.With
 rw [h1]
 simp only [Option.bind_some]
 have hg : (if (i : Int) < (l.length : Int) then need (InB (i : Int) l.length) (some (decide ((ix l (i : Int)) = s))) else some false) = some false := by
  by_cases hc : i < l.length
  ·rw [if_pos (by omega), need_eq ⟨by omega, by omega⟩, ix_get hc]
   have : l[i] ≠ s := fun e => hs (e ▸ List.getElem_mem hc)
   simp [this]
  ·rw [if_neg (by omega)]
 rw [hg]
 simp only [Option.bind_some, Bool.false_eq_true, if_false, List.nil_append]
 rw [sub_zero, Int.toNat_natCast, sub_all, Int.toNat_natCast]
 rw [need_eq ⟨by omega, by omega, by omega⟩, need_eq (by simp only [List.length_take, List.length_nil]; omega), need_eq (by simp only [List.length_take, List.length_cons, List.length_nil]; omega), need_eq ⟨by omega, by omega, by omega⟩,
  need_eq (by simp only [List.length_append, List.length_take, List.length_cons, List.length_nil, List.length_drop]; omega)]
 refine ⟨_, rfl, ?_, ?_, ?_⟩
 ·unfold Asc
  rw [List.append_assoc, List.pairwise_append]
  refine ⟨List.Pairwise.sublist (List.take_sublist _ _) ha, ?_, ?_⟩
  ·rw [List.singleton_append, List.pairwise_cons]
   exact ⟨h5, List.Pairwise.sublist (List.drop_sublist _ _) ha⟩
  ·intro x hx y hy
   rcases List.mem_append.1 hy with hy | hy
   ·simp at hy; subst hy; exact h4 x hx
   ·exact strLt_trans (h4 x hx) (h5 y hy)
 ·intro x
  conv => rhs; rw [← List.take_append_drop i l]
  simp only [List.mem_append, List.mem_singleton]
  constructor
  ·rintro ((h | h) | h)
   ·exact .inl (.inl h)
   ·exact .inr h
   ·exact .inl (.inr h)
  ·rintro ((h | h) | h)
   ·exact .inl (.inl h)
   ·exact .inr h
   ·exact .inl (.inr h)
 ·simp; omega

theorem rPut_eq (l m : List Str) (hl : l.length + m.length < 1000000) (ha : Asc l) :
  ∃ r n, mewsref23.Put l m = some (r, n) ∧ Asc r ∧ (∀ x, x ∈ r ↔ x ∈ l ∨ x ∈ m) ∧ r.length ≤ l.length + m.length ∧ (r.length : Int) = l.length + n := by
 obtain ⟨r, h1, h2⟩ : ∃ r, mewsref23.Put.loop0 m ⟨l, 0, 0⟩ = some r ∧ Asc r.1 ∧ (∀ x, x ∈ r.1 ↔ x ∈ l ∨ x ∈ m) ∧ r.1.length ≤ l.length + m.length ∧ (r.1.length : Int) = l.length + r.2 := by
  unfold mewsref23.Put.loop0
  refine whileO_meas (fun t => ∃ i : Nat, t.i = (i : Int) ∧ i ≤ m.length ∧ Asc t.l ∧ (∀ x, x ∈ t.l ↔ x ∈ l ∨ x ∈ m.take i) ∧ t.l.length ≤ l.length + i ∧ (t.l.length : Int) = l.length + t.n) (fun t => m.length - t.i.toNat) _ (fun t => ?_) _ ⟨0, rfl, by omega, ha, by simp, by simp, by simp⟩
  rintro ⟨i, e, hi, hasc, hmem, hlen, hcnt⟩
  unfold mewsref23.Put.body0
  rw [e]
  by_cases hc : i < m.length
  ·rw [if_pos (by omega), need_eq ⟨by omega, by omega⟩, need_eq ⟨by omega, by omega⟩, ix_get hc, rHas_eq _ _ (by omega)]
   simp only [Option.bind_some]
   have hw : (IntKind.wrap .i64 ((i : Int) + 1)) = ((i + 1 : Nat) : Int) := by rw [i64w (by omega) (by omega)]; omega
   have htake : ∀ x, x ∈ m.take (i + 1) ↔ x ∈ m.take i ∨ x = m[i] := by
    intro x; rw [List.take_add_one, List.getElem?_eq_getElem hc, List.mem_append]; simp
   by_cases hin : m[i] ∈ t.l
   ·rw [if_neg (by simp [hin])]
    refine .inl ⟨_, rfl, ⟨i + 1, hw, by omega, hasc, ?_, by show t.l.length ≤ _; omega, hcnt⟩, ?_⟩
    ·intro x
     show x ∈ t.l ↔ _
     rw [htake, hmem x]
     constructor
     ·rintro (h | h)
      ·exact .inl h
      ·exact .inr (.inl h)
     ·rintro (h | h | h)
      ·exact .inl h
      ·exact .inr h
      ·subst h; exact (hmem _).1 hin
    ·show m.length - (IntKind.wrap .i64 ((i : Int) + 1)).toNat < m.length - (i : Int).toNat
     rw [hw]; omega
   ·rw [if_pos (by simp [hin])]
    obtain ⟨r, g1, g2, g3, g4⟩ := rWith_eq t.l m[i] (by omega) hasc hin
    rw [g1]
    refine .inl ⟨_, rfl, ⟨i + 1, hw, by omega, g2, ?_, by show r.length ≤ _; omega, by show (r.length : Int) = _ + IntKind.wrap .i64 (t.n + 1); rw [i64w (by omega) (by omega)]; omega⟩, ?_⟩
    ·intro x
     show x ∈ r ↔ _
     rw [htake, g3 x, hmem x, or_assoc]
    ·show m.length - (IntKind.wrap .i64 ((i : Int) + 1)).toNat < m.length - (i : Int).toNat
     rw [hw]; omega
  ·rw [if_neg (by omega)]
   rw [List.take_of_length_le (by omega)] at hmem
   exact .inr ⟨_, rfl, hasc, hmem, by show t.l.length ≤ _; omega, hcnt⟩
 unfold mewsref23.Put
 rw [h1]
 exact ⟨r.1, r.2, rfl, h2⟩

theorem Same_self (a : List Str) (ha : a.length < 9223372036854775807) : mewsref02.Same a a = some true := by
 unfold mewsref02.Same mewsref02.Same.loop0
 rw [if_pos rfl, whileO_knownE ⟨0⟩ (fun i => (⟨(i : Int)⟩ : mewsref02.Same.S0)) a.length (r := .inl ()) ?_ ?_]
 ·rfl
 ·intro i hi
  unfold mewsref02.Same.body0
  simp only
  rw [if_pos (by omega), need_eq ⟨by omega, by omega⟩, need_eq ⟨by omega, by omega⟩, i64w (by omega) (by omega)]
  simp
 ·unfold mewsref02.Same.body0
  simp

/-! ### The reference's Drop -/
theorem rDrop2 (l : List Str) (key : Str) (n i : Int) (m : List Str) (hl : l.length < 1000000) (hn : 0 ≤ n ∧ n < 1000000) (hm : InB i m.length) (hk : ix m i = key) :
  mewsref23.Drop.loop2 ⟨l, n, i⟩ m ⟨n, [], 0⟩ = some (n + (l.length - (l.filter fun x => decide (x ≠ key)).length : Nat), l.filter fun x => decide (x ≠ key)) := by
 unfold mewsref23.Drop.loop2
 have hfl : ∀ k, ((l.take k).filter fun x => decide (x ≠ key)).length ≤ (l.take k).length := fun k => List.length_filter_le _ _
 refine whileO_knownE _ (fun k => (⟨n + ((l.take k).length - ((l.take k).filter fun x => decide (x ≠ key)).length : Nat), (l.take k).filter fun x => decide (x ≠ key), (k : Int)⟩ : mewsref23.Drop.S2)) l.length (fun k hkl => ?_) ?_ (by simp)
 ·unfold mewsref23.Drop.body2
  have h1 := hfl k
  have h3 : (l.take k).length = k := by rw [List.length_take]; omega
  show (if (k : Int) < (l.length : Int) then _ else _) = _
  rw [if_pos (by omega)]
  show ((need (InB (k : Int) l.length) (need (InB i m.length) _)).bind _) = _
  rw [need_eq ⟨by omega, by omega⟩, need_eq hm]
  show ((if (ix l (k : Int)) = (ix m i) then _ else _ : Option (Int × List Str)).bind _) = _
  rw [hk, ix_get hkl]
  have h4 : (l.take (k + 1)).filter (fun x => decide (x ≠ key)) = (l.take k).filter (fun x => decide (x ≠ key)) ++ if l[k] = key then [] else [l[k]] := by
   rw [List.take_add_one, List.getElem?_eq_getElem hkl, List.filter_append]
   congr 1
   by_cases he : l[k] = key <;> simp [he]
  have h5 : (l.take (k + 1)).length = k + 1 := by rw [List.length_take]; omega
  by_cases he : l[k] = key
  ·rw [if_pos he, Option.bind_some]
   rw [if_pos he, List.append_nil] at h4
   rw [h4, h5]
   show some (Sum.inl (⟨IntKind.wrap .i64 (n + _ + 1), _, IntKind.wrap .i64 ((k : Int) + 1)⟩ : mewsref23.Drop.S2)) = _
   rw [i64w (by omega) (by omega), i64w (by omega) (by omega), h3]
   congr 3 <;> omega
  ·rw [if_neg he]
   rw [if_neg he] at h4
   rw [h4, h5, need_eq ⟨by show (0 : Int) ≤ (k : Int); omega, by show (k : Int) < (l.length : Int); omega⟩, need_eq (by
    rw [List.length_singleton]
    show (((l.take k).filter fun x => decide (x ≠ key)).length + 1) * 16 ≤ _
    omega), Option.bind_some]
   show some (Sum.inl (⟨_, _, IntKind.wrap .i64 ((k : Int) + 1)⟩ : mewsref23.Drop.S2)) = _
   rw [i64w (by omega) (by omega), List.length_append, List.length_singleton, h3, Nat.add_sub_add_right, show ((k + 1 : Nat) : Int) = (k : Int) + 1 by omega]
 ·unfold mewsref23.Drop.body2
  show (if (l.length : Int) < (l.length : Int) then _ else _) = _
  rw [if_neg (by omega), List.take_length]

theorem asc_filter {l : List Str} (h : Asc l) (p : Str → Bool) : Asc (l.filter p) := List.Pairwise.sublist List.filter_sublist h

theorem rDrop_eq (l m : List Str) (hl : l.length < 1000000) (hm : m.length < 1000000) (ha : Asc l) :
  ∃ r n, mewsref23.Drop l m = some (r, n) ∧ Asc r ∧ (∀ x, x ∈ r ↔ x ∈ l ∧ x ∉ m) ∧ (l.length : Int) = r.length + n := by
 obtain ⟨r, h1, h2⟩ : ∃ r, mewsref23.Drop.loop0 m ⟨l, 0, 0⟩ = some r ∧ Asc r.1 ∧ (∀ x, x ∈ r.1 ↔ x ∈ l ∧ x ∉ m) ∧ (l.length : Int) = r.1.length + r.2 := by
  unfold mewsref23.Drop.loop0
  refine whileO_meas (fun t => ∃ i : Nat, t.i = (i : Int) ∧ i ≤ m.length ∧ Asc t.l ∧ (∀ x, x ∈ t.l ↔ x ∈ l ∧ x ∉ m.take i) ∧ 0 ≤ t.n ∧ (l.length : Int) = t.l.length + t.n) (fun t => m.length - t.i.toNat) _ (fun t => ?_) _ ⟨0, rfl, by omega, ha, by simp, by show (0 : Int) ≤ 0; omega, by show (l.length : Int) = (l.length : Int) + 0; omega⟩
  obtain ⟨tl, tn, ti⟩ := t
  rintro ⟨i, e, hi, hasc, hmem, hn0, hcnt⟩
  have e : ti = (i : Int) := e
  have hn0 : 0 ≤ tn := hn0
  have hcnt : (l.length : Int) = tl.length + tn := hcnt
  subst e
  unfold mewsref23.Drop.body0
  show (∃ s', (if (i : Int) < (m.length : Int) then _ else _ : Option _) = _ ∧ _) ∨ (∃ s', (if (i : Int) < (m.length : Int) then _ else _ : Option _) = _ ∧ _)
  by_cases hc : i < m.length
  ·rw [if_pos (by omega)]
   show (∃ s', ((mewsref23.Drop.loop2 ⟨tl, tn, (i : Int)⟩ m ⟨tn, [], 0⟩).bind _) = _ ∧ _) ∨ _
   rw [rDrop2 tl m[i] tn (i : Int) m (by omega) ⟨hn0, by omega⟩ ⟨by omega, by omega⟩ (ix_get hc), Option.bind_some]
   have hw : (IntKind.wrap .i64 ((i : Int) + 1)) = ((i + 1 : Nat) : Int) := by rw [i64w (by omega) (by omega)]; omega
   have hfl := List.length_filter_le (fun x => decide (x ≠ m[i])) tl
   refine .inl ⟨_, rfl, ⟨i + 1, hw, by omega, asc_filter hasc _, fun x => ?_, ?_, ?_⟩, ?_⟩
   ·show x ∈ tl.filter _ ↔ _
    have htake : x ∈ m.take (i + 1) ↔ x ∈ m.take i ∨ x = m[i] := by
     rw [List.take_add_one, List.getElem?_eq_getElem hc, List.mem_append]; simp
    have := hmem x
    have : x ∈ tl ↔ x ∈ l ∧ x ∉ m.take i := this
    rw [List.mem_filter, this, htake, decide_eq_true_eq, not_or, and_assoc]
   ·show (0 : Int) ≤ tn + _
    omega
   ·show (l.length : Int) = ((tl.filter _).length : Nat) + (tn + _)
    omega
   ·show m.length - (IntKind.wrap .i64 ((i : Int) + 1)).toNat < m.length - (i : Int).toNat
    rw [hw]; omega
  ·rw [if_neg (by omega)]
   rw [List.take_of_length_le (by omega)] at hmem
   exact .inr ⟨_, rfl, hasc, hmem, hcnt⟩
 unfold mewsref23.Drop
 rw [h1]
 exact ⟨r.1, r.2, rfl, h2⟩

/-! ### slices.Sort -/
theorem strLt_lt : ∀ a b : Str, strLt a b = decide (a < b)
 | [], [] => by simp [strLt_nil]
 | [], y :: b => by
  show true = _
  simp
 | x :: a, [] => by rw [strLt_nil]; simp
 | x :: a, y :: b => by
  rw [strLt_cons, strLt_lt a b]
  by_cases h : x < y
  ·simp [h, List.cons_lt_cons_iff]
  ·by_cases h2 : x = y
   ·subst h2; simp [List.cons_lt_cons_iff, UInt8.lt_irrefl]
   ·simp [h, h2, List.cons_lt_cons_iff]

theorem le_strLt (a b : Str) : decide (a ≤ b) = !strLt b a := by
 rw [strLt_lt]
 by_cases h : b < a
 ·rw [decide_eq_true h, decide_eq_false (fun h2 => h2 h)]; rfl
 ·rw [decide_eq_false h, decide_eq_true (show a ≤ b from h)]; rfl

theorem Sort_eq {x l : List Str} (hx : x.Nodup) (ha : Asc l) (hm : ∀ y, y ∈ x ↔ y ∈ l) (hl : x.length < 1000000) : slices.Sort_string x = some l := by
 unfold slices.Sort_string
 rw [need_eq (by omega)]
 have hf : (fun a b : Str => decide (a ≤ b)) = fun a b => !strLt b a := by funext a b; exact le_strLt a b
 rw [hf]
 have hp := List.mergeSort_perm x fun a b => !strLt b a
 have hs := List.pairwise_mergeSort (le := fun a b : Str => !strLt b a) (fun a b c h1 h2 => by
  simp only [Bool.not_eq_true'] at *
  rcases strLt_tri a b with h | h | h
  ·subst h; exact h2
  ·rcases strLt_tri b c with h' | h' | h'
   ·subst h'; exact strLt_asymm h
   ·exact strLt_asymm (strLt_trans h h')
   ·rw [h2] at h'; cases h'
  ·rw [h1] at h; cases h) (fun a b => by
  simp only [Bool.or_eq_true, Bool.not_eq_true']
  rcases strLt_tri a b with h | h | h
  ·subst h; exact .inl (strLt_irrefl _)
  ·exact .inl (strLt_asymm h)
  ·exact .inr (strLt_asymm h)) x
 have hn : (x.mergeSort fun a b => !strLt b a).Nodup := hp.nodup_iff.2 hx
 have hasc : Asc (x.mergeSort fun a b => !strLt b a) := by
  have := hs.and hn
  refine this.imp fun {a b} h => ?_
  obtain ⟨h1, h2⟩ := h
  simp only [Bool.not_eq_true'] at h1
  rcases strLt_tri a b with h | h | h
  ·exact absurd h h2
  ·exact h
  ·rw [h1] at h; cases h
 rw [asc_ext hasc ha fun y => (hp.mem_iff).trans (hm y)]

theorem alive23 : mewslaw23.alive = some true := mewslaw23.alive.c_le 100 true (by decide +kernel)

theorem far23_one (m : List Str) (hm : m.length < 1000000000000000) : ∃ b, mewslaw23.far [m] = some b ∧ (b = false → m.length ≤ 300 ∧ ∀ y, y ∈ m → y.length ≤ 200) := by
 have h2 : ∀ s : mewslaw23.far.S0, s.t10 = 0 → mewslaw23.far.loop2 [m] s ⟨0⟩ = some (if m.any (fun o => decide (200 < o.length)) = true then .inr (.inr (.inr true)) else .inl ()) := by
  rintro ⟨n, t10⟩ e
  have e : t10 = 0 := e
  subst e
  unfold mewslaw23.far.loop2
  refine whileO_anyL (σ := mewslaw23.far.S2) _ (fun i => ⟨(i : Int)⟩) m (fun o => decide (200 < o.length)) _ _ (fun i hi => ?_) ?_
  ·unfold mewslaw23.far.body2
   show (if (i : Int) < (m.length : Int) then _ else _) = _
   rw [if_pos (by omega), need_eq ⟨by show (0 : Int) ≤ (i : Int); omega, by show (i : Int) < (m.length : Int); omega⟩]
   show (if 200 < ((ix m (i : Int)).length : Int) then _ else _) = _
   rw [ix_get hi]
   by_cases h : 200 < m[i].length
   ·rw [if_pos (by omega), if_pos (decide_eq_true h)]
   ·rw [if_neg (by omega), if_neg (by simpa using h)]
    show some (Sum.inl (⟨IntKind.wrap .i64 ((i : Int) + 1)⟩ : mewslaw23.far.S2)) = _
    rw [i64w (by omega) (by omega), show (i : Int) + 1 = ((i + 1 : Nat) : Int) by omega]
  ·unfold mewslaw23.far.body2
   exact if_neg (by show ¬ (m.length : Int) < (m.length : Int); omega)
 have b0 : mewslaw23.far.body0 [m] ⟨0, 0⟩ = if 300 < m.length ∨ m.any (fun o => decide (200 < o.length)) = true then some (.inr (.inr true)) else some (.inl ⟨(m.length : Int), 1⟩) := by
  unfold mewslaw23.far.body0
  rw [if_pos (show (0 : Int) < (([m] : List (List Str)).length : Int) by simp), need_eq ⟨by show (0 : Int) ≤ 0; omega, by show (0 : Int) < 1; omega⟩]
  show ((if 300 < IntKind.wrap .i64 (0 + (m.length : Int)) then _ else mewslaw23.far.loop2 [m] ⟨0, 0⟩ ⟨0⟩ : Option _).bind _) = _
  rw [Int.zero_add, i64w (by omega) (by omega), h2 _ rfl]
  by_cases h : 300 < m.length
  ·rw [if_pos (by omega), if_pos (.inl h)]; rfl
  ·rw [if_neg (by omega)]
   by_cases h3 : m.any (fun o => decide (200 < o.length)) = true
   ·rw [if_pos h3, if_pos (.inr h3)]; rfl
   ·rw [if_neg h3, if_neg (by rintro (h4 | h4); exact h h4; exact h3 h4)]
    show some (Sum.inl (⟨IntKind.wrap .i64 (0 + (m.length : Int)), _⟩ : mewslaw23.far.S0)) = _
    rw [Int.zero_add, i64w (by omega) (by omega)]
    rfl
 unfold mewslaw23.far mewslaw23.far.loop0
 by_cases h : 300 < m.length ∨ m.any (fun o => decide (200 < o.length)) = true
 ·rw [if_pos h] at b0
  rw [whileO_ret b0]
  exact ⟨true, rfl, fun e => by cases e⟩
 ·rw [if_neg h] at b0
  rw [whileO_step b0, whileO_ret (r := .inl ()) rfl]
  refine ⟨false, rfl, fun _ => ⟨Nat.le_of_not_lt fun hg => h (.inl hg), fun y hy => Nat.le_of_not_lt fun hg => h (.inr (List.any_eq_true.2 ⟨y, hy, decide_eq_true hg⟩))⟩⟩

end Go.Pu
