/- Chapter 23: what merge finds. (The three merges are printed by mem2.py.) -/
import Derived.Test.YtbegfakopnaagaaMMPuMem1
set_option maxRecDepth 100000
namespace Go.Pu
open Go.Lift

/-! ### Sums and ranges -/
def sumN (a : Nat → Nat) : Nat → Nat
  | 0 => 0
  | k + 1 => sumN a k + a k
theorem sumN_le {a b : Nat → Nat} : ∀ {k : Nat}, (∀ j, j < k → a j ≤ b j) → sumN a k ≤ sumN b k
  | 0, _ => Nat.le_refl _
  | k + 1, h => Nat.add_le_add (sumN_le fun j hj => h j (by omega)) (h k (by omega))
theorem sumN_lt {a b : Nat → Nat} : ∀ {k : Nat}, (∀ j, j < k → a j ≤ b j) → (∃ j, j < k ∧ a j < b j) → sumN a k < sumN b k
  | 0, _, ⟨j, h, _⟩ => by omega
  | k + 1, h, ⟨j, hj, hlt⟩ => by
    simp only [sumN]
    have h1 := h k (by omega)
    have h2 : sumN a k ≤ sumN b k := sumN_le fun j hj => h j (by omega)
    by_cases e : j = k
    · subst e; omega
    · have := sumN_lt (a := a) (b := b) (k := k) (fun j hj => h j (by omega)) ⟨j, by omega, hlt⟩
      omega

abbrev rng (k : Nat) (f : Nat → Nat) : List Int := (List.range k).map fun j => (f j : Int)
theorem rng_len (k f) : (rng k f).length = k := by simp
theorem ix_rng {k : Nat} {f : Nat → Nat} {i : Nat} (h : i < k) : ix (rng k f) (i : Int) = (f i : Int) := by
  rw [ix_get (by simpa using h)]; simp
theorem need_v {k : Nat} {f : Nat → Nat} {i : Nat} (h : i < k) {α : Type} (x : Option α) : need (InB (i : Int) (rng k f).length) x = x := need_eq ⟨by omega, by rw [rng_len]; omega⟩
theorem upd_rng {k : Nat} {f : Nat → Nat} {i : Nat} {x : Nat} (h : i < k) : upd (rng k f) (i : Int) (x : Int) = rng k fun j => if j = i then x else f j := by
  unfold upd
  rw [Int.toNat_natCast]
  apply List.ext_getElem
  · simp
  · intro j h1 h2
    simp at h1
    rw [List.getElem_set]
    by_cases e : i = j
    · subst e; simp
    · rw [if_neg e]; simp [Ne.symm e]
theorem rng_zero (k : Nat) : List.replicate k (0 : Int) = rng k fun _ => 0 := by
  apply List.ext_getElem <;> simp

/-! ### The merge -/
/-- Does what is left of list j begin with m? -/
abbrev hit (l : List (List Str)) (a : Nat → Nat) (m : Str) (j : Nat) : Prop := a j < (ix l (j : Int)).length ∧ ix (ix l (j : Int)) (a j : Int) = m
abbrev cnt (l : List (List Str)) (m : Str) : Nat := (List.range l.length).countP fun j : Nat => decide (m ∈ ix l (j : Int))
def kept (l : List (List Str)) (keep : Int → Bool → Bool) (m : Str) : Bool := keep (cnt l m : Int) (decide (m ∈ ix l ((0 : Nat) : Int)))

structure LQ (l : List (List Str)) (a : Nat → Nat) (i : Nat) (least : Str) (some_ : Bool) : Prop where
  any : some_ = true ↔ ∃ j, j < i ∧ a j < (ix l (j : Int)).length
  is : some_ = true → (∃ j, j < i ∧ hit l a least j) ∧ ∀ j, j < i → a j < (ix l (j : Int)).length → strLt (ix (ix l (j : Int)) (a j : Int)) least = false

structure MInv (l : List (List Str)) (keep : Int → Bool → Bool) (out : List Str) (a : Nat → Nat) : Prop where
  le : ∀ j, j < l.length → a j ≤ (ix l (j : Int)).length
  asc : Asc out
  cut : ∀ i j, i < l.length → j < l.length → ∀ x ∈ (ix l (i : Int)).take (a i), ∀ y ∈ (ix l (j : Int)).drop (a j), strLt x y = true
  mem : ∀ x, x ∈ out ↔ (∃ i, i < l.length ∧ x ∈ (ix l (i : Int)).take (a i)) ∧ kept l keep x = true
  len : out.length ≤ sumN a l.length

theorem MInv.init (l : List (List Str)) (keep : Int → Bool → Bool) : MInv l keep [] fun _ => 0 where
  le := fun _ _ => Nat.zero_le _
  asc := List.Pairwise.nil
  cut := by simp
  mem := by simp
  len := Nat.zero_le _

theorem hit_drop {l : List (List Str)} {a : Nat → Nat} {m : Str} {j : Nat} (h : hit l a m j) : m ∈ (ix l (j : Int)).drop (a j) := by
  obtain ⟨h1, h2⟩ := h
  rw [ix_get h1] at h2
  rw [List.drop_eq_getElem_cons h1, h2]
  simp

/-- In which lists the least one is. -/
theorem MInv.hit_iff {l : List (List Str)} {keep out a} (h : MInv l keep out a) (hasc : ∀ x ∈ l, Asc x) {m : Str} (hm : ∃ j, j < l.length ∧ hit l a m j) (hmin : ∀ j, j < l.length → a j < (ix l (j : Int)).length → strLt (ix (ix l (j : Int)) (a j : Int)) m = false) {j : Nat} (hj : j < l.length) :
    hit l a m j ↔ m ∈ ix l (j : Int) := by
  constructor
  · rintro ⟨h1, h2⟩
    rw [ix_get h1] at h2
    exact h2 ▸ List.getElem_mem h1
  · intro hmem
    have hA : Asc (ix l (j : Int)) := by
      apply hasc; rw [ix_get hj]; exact List.getElem_mem hj
    obtain ⟨i, hi, hit⟩ := hm
    rw [← List.take_append_drop (a j) (ix l (j : Int))] at hmem
    rcases List.mem_append.1 hmem with h1 | h1
    · have := h.cut j i hj hi m h1 m (hit_drop hit)
      rw [strLt_irrefl] at this; cases this
    · have hlt : a j < (ix l (j : Int)).length := by
        by_cases hc : a j < (ix l (j : Int)).length
        · exact hc
        · rw [List.drop_eq_nil_of_le (by omega)] at h1; simp at h1
      refine ⟨hlt, ?_⟩
      have hmn := hmin j hj hlt
      rw [ix_get hlt] at hmn ⊢
      rw [List.drop_eq_getElem_cons hlt] at h1
      rcases List.mem_cons.1 h1 with h1 | h1
      · exact h1.symm
      · obtain ⟨q, hq, rfl⟩ := List.mem_iff_getElem.1 h1
        rw [List.getElem_drop] at hmn
        have := hA.get (i := a j) (j := a j + 1 + q) (by omega) (by simp at hq; omega)
        rw [this] at hmn; cases hmn

open Classical in
/-- One step. -/
theorem MInv.step {l : List (List Str)} {keep out a} (h : MInv l keep out a) (hasc : ∀ x ∈ l, Asc x) {m : Str} (hm : ∃ j, j < l.length ∧ hit l a m j) (hmin : ∀ j, j < l.length → a j < (ix l (j : Int)).length → strLt (ix (ix l (j : Int)) (a j : Int)) m = false) :
    MInv l keep (if kept l keep m = true then out ++ [m] else out) (fun j => if hit l a m j then a j + 1 else a j) ∧ sumN a l.length < sumN (fun j => if hit l a m j then a j + 1 else a j) l.length := by
  have htake : ∀ j, j < l.length → ∀ x, x ∈ (ix l (j : Int)).take (if hit l a m j then a j + 1 else a j) ↔ x ∈ (ix l (j : Int)).take (a j) ∨ (hit l a m j ∧ x = m) := by
    intro j hj x
    by_cases hh : hit l a m j
    · rw [if_pos hh, List.take_add_one, List.getElem?_eq_getElem hh.1, List.mem_append]
      have := hh.2
      rw [ix_get hh.1] at this
      rw [this]
      simp only [Option.toList_some, List.mem_singleton]
      exact ⟨fun hx => hx.elim .inl (fun hx => .inr ⟨hh, hx⟩), fun hx => hx.elim .inl (fun hx => .inr hx.2)⟩
    · rw [if_neg hh]
      exact ⟨.inl, fun hx => hx.elim id (fun hx => absurd hx.1 hh)⟩
  have hlt : sumN a l.length < sumN (fun j => if hit l a m j then a j + 1 else a j) l.length := by
    refine sumN_lt (fun j hj => ?_) ?_
    · show a j ≤ if hit l a m j then a j + 1 else a j
      split <;> omega
    · obtain ⟨j, hj, hh⟩ := hm
      exact ⟨j, hj, by show a j < if hit l a m j then a j + 1 else a j; rw [if_pos hh]; omega⟩
  refine ⟨{ le := ?_, asc := ?_, cut := ?_, mem := ?_, len := ?_ }, hlt⟩
  · intro j hj
    show (if hit l a m j then a j + 1 else a j) ≤ _
    by_cases hh : hit l a m j
    · rw [if_pos hh]; have := hh.1; omega
    · rw [if_neg hh]; exact h.le j hj
  · by_cases hk : kept l keep m = true
    · rw [if_pos hk]
      unfold Asc
      rw [List.pairwise_append]
      refine ⟨h.asc, by simp, fun x hx y hy => ?_⟩
      simp at hy; subst hy
      obtain ⟨⟨i, hi, hxi⟩, _⟩ := (h.mem x).1 hx
      obtain ⟨j, hj, hh⟩ := hm
      exact h.cut i j hi hj x hxi y (hit_drop hh)
    · rw [if_neg hk]; exact h.asc
  · intro i j hi hj x hx y hy
    have hA : Asc (ix l (j : Int)) := by
      apply hasc; rw [ix_get hj]; exact List.getElem_mem hj
    have hy' : y ∈ (ix l (j : Int)).drop (a j) := by
      refine List.mem_of_mem_drop (i := (if hit l a m j then a j + 1 else a j) - a j) ?_
      rw [List.drop_drop]
      have : a j + ((if hit l a m j then a j + 1 else a j) - a j) = if hit l a m j then a j + 1 else a j := by split <;> omega
      rw [this]; exact hy
    rcases (htake i hi x).1 hx with h1 | ⟨h1, rfl⟩
    · exact h.cut i j hi hj x h1 y hy'
    · by_cases hh : hit l a x j
      · have hy2 : y ∈ (ix l (j : Int)).drop (a j + 1) := by
          rw [show (a j + 1) = (if hit l a x j then a j + 1 else a j) from (if_pos hh).symm]; exact hy
        have e := hh.2
        rw [ix_get hh.1] at e
        obtain ⟨q, hq, rfl⟩ := List.mem_iff_getElem.1 hy2
        rw [List.getElem_drop, ← e]
        exact hA.get (by omega) (by simp at hq; omega)
      · have hl : a j < (ix l (j : Int)).length := by
          by_cases hc : a j < (ix l (j : Int)).length
          · exact hc
          · rw [List.drop_eq_nil_of_le (by omega)] at hy'; simp at hy'
        have hmn := hmin j hj hl
        have hne : ix (ix l (j : Int)) (a j : Int) ≠ x := fun e => hh ⟨hl, e⟩
        rw [ix_get hl] at hmn hne
        have h3 : strLt x (ix l (j : Int))[a j] = true := by
          rcases strLt_tri (ix l (j : Int))[a j] x with h | h | h
          · exact absurd h hne
          · rw [h] at hmn; cases hmn
          · exact h
        rw [List.drop_eq_getElem_cons hl] at hy'
        rcases List.mem_cons.1 hy' with h4 | h4
        · rw [h4]; exact h3
        · obtain ⟨q, hq, rfl⟩ := List.mem_iff_getElem.1 h4
          rw [List.getElem_drop]
          exact strLt_trans h3 (hA.get (by omega) (by simp at hq; omega))
  · intro x
    have hex : (∃ i, i < l.length ∧ x ∈ (ix l (i : Int)).take (if hit l a m i then a i + 1 else a i)) ↔ (∃ i, i < l.length ∧ x ∈ (ix l (i : Int)).take (a i)) ∨ x = m := by
      constructor
      · rintro ⟨i, hi, hx⟩
        rcases (htake i hi x).1 hx with h1 | ⟨h1, rfl⟩
        · exact .inl ⟨i, hi, h1⟩
        · exact .inr rfl
      · rintro (⟨i, hi, hx⟩ | rfl)
        · exact ⟨i, hi, (htake i hi x).2 (.inl hx)⟩
        · obtain ⟨j, hj, hh⟩ := hm
          exact ⟨j, hj, (htake j hj _).2 (.inr ⟨hh, rfl⟩)⟩
    rw [hex]
    by_cases hk : kept l keep m = true
    · rw [if_pos hk, List.mem_append, List.mem_singleton, h.mem x]
      constructor
      · rintro (⟨h1, h2⟩ | rfl)
        · exact ⟨.inl h1, h2⟩
        · exact ⟨.inr rfl, hk⟩
      · rintro ⟨h1 | rfl, h2⟩
        · exact .inl ⟨h1, h2⟩
        · exact .inr rfl
    · rw [if_neg hk, h.mem x]
      constructor
      · rintro ⟨h1, h2⟩; exact ⟨.inl h1, h2⟩
      · rintro ⟨h1 | rfl, h2⟩
        · exact ⟨h1, h2⟩
        · exact absurd h2 hk
  · have := h.len
    by_cases hk : kept l keep m = true
    · rw [if_pos hk]; simp only [List.length_append, List.length_singleton]; omega
    · rw [if_neg hk]; omega

theorem MInv.done {l : List (List Str)} {keep out a} (h : MInv l keep out a) (hno : ¬ ∃ j, j < l.length ∧ a j < (ix l (j : Int)).length) : Asc out ∧ ∀ x, x ∈ out ↔ (∃ i, i < l.length ∧ x ∈ ix l (i : Int)) ∧ kept l keep x = true := by
  refine ⟨h.asc, fun x => ?_⟩
  rw [h.mem x]
  have : ∀ i, i < l.length → (ix l (i : Int)).take (a i) = ix l (i : Int) := fun i hi => List.take_of_length_le (by
    by_cases hc : a i < (ix l (i : Int)).length
    · exact absurd ⟨i, hi, hc⟩ hno
    · omega)
  constructor
  · rintro ⟨⟨i, hi, hx⟩, hk⟩; exact ⟨⟨i, hi, by rwa [this i hi] at hx⟩, hk⟩
  · rintro ⟨⟨i, hi, hx⟩, hk⟩; exact ⟨⟨i, hi, by rwa [this i hi]⟩, hk⟩


/-! ### Union -/
section
variable {l : List (List Str)} {out : List Str} {a : Nat → Nat}

theorem Union_2 (hl : l.length ≤ 1000) (hle : ∀ j, j < l.length → a j ≤ (ix l (j : Int)).length) :
    ∃ r, member.merge_member_Union_1.loop2 l ⟨out, rng l.length a⟩ ⟨[], false, 0⟩ = some r ∧ LQ l a l.length r.1 r.2 := by
  unfold member.merge_member_Union_1.loop2
  refine whileO_meas (fun t => ∃ i : Nat, t.t18 = (i : Int) ∧ i ≤ l.length ∧ LQ l a i t.least t.some_) (fun t => l.length - t.t18.toNat) _ (fun t => ?_) _ ⟨0, rfl, by omega, { any := by simp, is := by simp }⟩
  rintro ⟨i, e, hi, hq⟩
  unfold member.merge_member_Union_1.body2
  rw [e]
  by_cases hc : i < l.length
  · rw [if_pos (by omega)]
    simp only
    have hai := hle i hc
    have n1 : ∀ {α : Type} (x : Option α), need (InB (i : Int) l.length) x = x := fun x => need_eq ⟨by omega, by omega⟩
    simp only [need_v hc, n1, ix_rng hc]
    have hw : (IntKind.wrap .i64 ((i : Int) + 1)) = ((i + 1 : Nat) : Int) := by rw [i64w (by omega) (by omega)]; omega
    rw [hw]
    by_cases h1 : a i < (ix l (i : Int)).length
    · have n2 : ∀ {α : Type} (x : Option α), need (InB (a i : Int) (ix l (i : Int)).length) x = x := fun x => need_eq ⟨by omega, by omega⟩
      rw [if_pos (by omega)]
      simp only [n2]
      by_cases h2 : t.some_ = true
      · rw [if_neg (by simp [h2])]
        simp only [Option.bind_some]
        by_cases h3 : strLt (ix (ix l (i : Int)) (a i : Int)) t.least = true
        · rw [if_pos h3]
          refine .inl ⟨_, rfl, ⟨i + 1, rfl, by omega, ?_⟩, by show l.length - (((i + 1 : Nat) : Int)).toNat < l.length - (i : Int).toNat; omega⟩
          refine { any := ?_, is := ?_ }
          · exact ⟨fun _ => ⟨i, by omega, h1⟩, fun _ => rfl⟩
          · intro _
            refine ⟨⟨i, by omega, h1, rfl⟩, fun j hj hlt => ?_⟩
            by_cases ej : j = i
            · subst ej; exact strLt_irrefl _
            · have h4 := (hq.is h2).2 j (by omega) hlt
              show strLt _ (ix (ix l (i : Int)) (a i : Int)) = false
              cases h5 : strLt (ix (ix l (j : Int)) (a j : Int)) (ix (ix l (i : Int)) (a i : Int)) with
              | false => rfl
              | true => rw [strLt_trans h5 h3] at h4; cases h4
        · rw [if_neg h3]
          refine .inl ⟨_, rfl, ⟨i + 1, rfl, by omega, ?_⟩, by show l.length - (((i + 1 : Nat) : Int)).toNat < l.length - (i : Int).toNat; omega⟩
          refine { any := ?_, is := ?_ }
          · exact ⟨fun _ => ⟨i, by omega, h1⟩, fun _ => h2⟩
          · intro _
            obtain ⟨⟨j, hj, hh⟩, hmn⟩ := hq.is h2
            refine ⟨⟨j, by omega, hh⟩, fun j hj hlt => ?_⟩
            by_cases ej : j = i
            · subst ej; simpa using h3
            · exact hmn j (by omega) hlt
      · rw [if_pos (by simp [h2])]
        simp only [Option.bind_some, if_true]
        have hno : ¬ ∃ j, j < i ∧ a j < (ix l (j : Int)).length := fun h => h2 (hq.any.2 h)
        refine .inl ⟨_, rfl, ⟨i + 1, rfl, by omega, ?_⟩, by show l.length - (((i + 1 : Nat) : Int)).toNat < l.length - (i : Int).toNat; omega⟩
        refine { any := ?_, is := ?_ }
        · exact ⟨fun _ => ⟨i, by omega, h1⟩, fun _ => rfl⟩
        · intro _
          refine ⟨⟨i, by omega, h1, rfl⟩, fun j hj hlt => ?_⟩
          by_cases ej : j = i
          · subst ej; exact strLt_irrefl _
          · exact absurd ⟨j, by omega, hlt⟩ hno
    · rw [if_neg (by omega)]
      simp only [Option.bind_some, Bool.false_eq_true, if_false]
      refine .inl ⟨_, rfl, ⟨i + 1, rfl, by omega, ?_⟩, by show l.length - (((i + 1 : Nat) : Int)).toNat < l.length - (i : Int).toNat; omega⟩
      refine { any := ?_, is := ?_ }
      · refine hq.any.trans ⟨fun ⟨j, h2, h3⟩ => ⟨j, by omega, h3⟩, fun ⟨j, h2, h3⟩ => ?_⟩
        by_cases ej : j = i
        · subst ej; exact absurd h3 h1
        · exact ⟨j, by omega, h3⟩
      · intro hs
        obtain ⟨⟨j, hj, hh⟩, hmn⟩ := hq.is hs
        refine ⟨⟨j, by omega, hh⟩, fun j hj hlt => ?_⟩
        by_cases ej : j = i
        · subst ej; exact absurd hlt h1
        · exact hmn j (by omega) hlt
  · rw [if_neg (by omega)]
    obtain rfl : i = l.length := by omega
    exact .inr ⟨_, rfl, hq⟩

open Classical in
theorem Union_4 (hl : l.length ≤ 1000) (hb : ∀ j, j < l.length → (ix l (j : Int)).length ≤ 1000000) (hle : ∀ j, j < l.length → a j ≤ (ix l (j : Int)).length) (s : Str × Bool) :
    member.merge_member_Union_1.loop4 l s ⟨0, false, 0, rng l.length a⟩ = some ((((List.range l.length).countP fun j => decide (hit l a s.1 j) : Nat) : Int), decide (0 < l.length ∧ hit l a s.1 0), rng l.length fun j => if hit l a s.1 j then a j + 1 else a j) := by
  unfold member.merge_member_Union_1.loop4
  let st : Nat → member.merge_member_Union_1.S4 := fun i => ⟨(((List.range i).countP fun j => decide (hit l a s.1 j) : Nat) : Int), decide (0 < i ∧ hit l a s.1 0), (i : Int), rng l.length fun j => if j < i ∧ hit l a s.1 j then a j + 1 else a j⟩
  have h0 : (⟨0, false, 0, rng l.length a⟩ : member.merge_member_Union_1.S4) = st 0 := by simp [st]
  refine whileO_knownE _ st l.length (fun i hi => ?_) ?_ h0
  · have hai := hle i hi
    have hbi := hb i hi
    have hcp : ((List.range i).countP fun j => decide (hit l a s.1 j)) ≤ i := by
      refine Nat.le_trans List.countP_le_length ?_; simp
    have hw : (IntKind.wrap .i64 ((i : Int) + 1)) = ((i + 1 : Nat) : Int) := by rw [i64w (by omega) (by omega)]; omega
    unfold member.merge_member_Union_1.body4
    simp only [st]
    rw [if_pos (by omega)]
    have n1 : ∀ {α : Type} (x : Option α), need (InB (i : Int) l.length) x = x := fun x => need_eq ⟨by omega, by omega⟩
    simp only [need_v hi, n1, ix_rng hi, hw]
    have hat : (if i < i ∧ hit l a s.1 i then a i + 1 else a i) = a i := by rw [if_neg (by omega)]
    rw [hat]
    have hcount : (List.range (i + 1)).countP (fun j => decide (hit l a s.1 j)) = (List.range i).countP (fun j => decide (hit l a s.1 j)) + (if hit l a s.1 i then 1 else 0) := by
      rw [List.range_succ, List.countP_append, List.countP_singleton]; simp
    by_cases h1 : a i < (ix l (i : Int)).length
    · have n2 : ∀ {α : Type} (x : Option α), need (InB (a i : Int) (ix l (i : Int)).length) x = x := fun x => need_eq ⟨by omega, by omega⟩
      rw [if_pos (by omega)]
      simp only [n2, Option.bind_some]
      by_cases h2 : ix (ix l (i : Int)) (a i : Int) = s.1
      · have hh : hit l a s.1 i := ⟨h1, h2⟩
        have hv : upd (rng l.length fun j => if j < i ∧ hit l a s.1 j then a j + 1 else a j) (i : Int) (IntKind.wrap .i64 ((a i : Int) + 1)) = rng l.length fun j => if j < i + 1 ∧ hit l a s.1 j then a j + 1 else a j := by
          rw [i64w (by omega) (by omega), show (a i : Int) + 1 = ((a i + 1 : Nat) : Int) by omega, upd_rng hi]
          refine List.map_congr_left fun j hj => ?_
          by_cases ej : j = i
          · subst ej
            have e5 : (if j < j + 1 ∧ hit l a s.1 j then a j + 1 else a j) = a j + 1 := if_pos ⟨by omega, hh⟩
            simp only [e5, if_true]
          · have : j < i + 1 ↔ j < i := by omega
            simp [ej, this]
        have hn : IntKind.wrap .i64 ((((List.range i).countP fun j => decide (hit l a s.1 j) : Nat) : Int) + 1) = (((List.range (i + 1)).countP fun j => decide (hit l a s.1 j) : Nat) : Int) := by
          rw [i64w (by omega) (by omega), hcount, if_pos hh]; omega
        rw [if_pos (by rw [decide_eq_true_eq]; exact h2), hv, hn]
        by_cases hf : 0 < i ∧ hit l a s.1 0
        · have e1 : decide (0 < i ∧ hit l a s.1 0) = true := decide_eq_true hf
          have e2 : decide (0 < i + 1 ∧ hit l a s.1 0) = true := decide_eq_true ⟨by omega, hf.2⟩
          simp only [e1, e2, if_true, Option.bind_some]
        · have e1 : decide (0 < i ∧ hit l a s.1 0) = false := decide_eq_false hf
          have e2 : decide (0 < i + 1 ∧ hit l a s.1 0) = decide ((i : Int) = 0) := by
            apply decide_eq_decide.2
            constructor
            · intro h; by_cases e0 : i = 0
              · omega
              · exact absurd ⟨by omega, h.2⟩ hf
            · intro h
              have : i = 0 := by omega
              subst this
              exact ⟨by omega, hh⟩
          simp only [e1, e2, Bool.false_eq_true, if_false, Option.bind_some]
      · have hh : ¬ hit l a s.1 i := fun h => h2 h.2
        rw [if_neg (by rw [decide_eq_true_eq]; exact h2)]
        simp only [Option.bind_some]
        rw [hcount, if_neg hh, Nat.add_zero]
        have e2 : decide (0 < i + 1 ∧ hit l a s.1 0) = decide (0 < i ∧ hit l a s.1 0) := by
          apply decide_eq_decide.2
          by_cases e0 : i = 0
          · subst e0; exact ⟨fun h => absurd h.2 hh, fun h => absurd h.2 hh⟩
          · exact ⟨fun h => ⟨by omega, h.2⟩, fun h => ⟨by omega, h.2⟩⟩
        rw [e2]
        congr 3
        refine List.map_congr_left fun j hj => ?_
        by_cases ej : j = i
        · subst ej; simp [hh]
        · have : j < i + 1 ↔ j < i := by omega
          simp [this]
    · have hh : ¬ hit l a s.1 i := fun h => h1 h.1
      rw [if_neg (by omega)]
      simp only [Option.bind_some, Bool.false_eq_true, if_false]
      rw [hcount, if_neg hh, Nat.add_zero]
      have e2 : decide (0 < i + 1 ∧ hit l a s.1 0) = decide (0 < i ∧ hit l a s.1 0) := by
        apply decide_eq_decide.2
        by_cases e0 : i = 0
        · subst e0; exact ⟨fun h => absurd h.2 hh, fun h => absurd h.2 hh⟩
        · exact ⟨fun h => ⟨by omega, h.2⟩, fun h => ⟨by omega, h.2⟩⟩
      rw [e2]
      congr 3
      refine List.map_congr_left fun j hj => ?_
      by_cases ej : j = i
      · subst ej; simp [hh]
      · have : j < i + 1 ↔ j < i := by omega
        simp [this]
  · unfold member.merge_member_Union_1.body4
    simp only [st]
    rw [if_neg (by omega)]
    congr 4
    refine List.map_congr_left fun j hj => ?_
    have : j < l.length := by simpa using hj
    simp [this]

theorem Union_eq (hl : l.length ≤ 1000) (hb : sumN (fun j => (ix l (j : Int)).length) l.length ≤ 1000000) (hasc : ∀ x ∈ l, Asc x) :
    ∃ r, member.Union l = some r ∧ Asc r ∧ ∀ x, x ∈ r ↔ (∃ i, i < l.length ∧ x ∈ ix l (i : Int)) ∧ kept l (fun _ _ => true) x = true := by
  classical
  have hb1 : ∀ j, j < l.length → (ix l (j : Int)).length ≤ 1000000 := by
    intro j hj
    have : ∀ k, j < k → (ix l (j : Int)).length ≤ sumN (fun j => (ix l (j : Int)).length) k := by
      intro k
      induction k with
      | zero => intro h; omega
      | succ k ih =>
        intro h
        simp only [sumN]
        by_cases e : j = k
        · subst e; omega
        · have := ih (by omega); omega
    exact Nat.le_trans (this _ hj) hb
  unfold member.Union member.merge_member_Union_1
  rw [need_eq ⟨by omega, by omega⟩, Int.toNat_natCast, rng_zero]
  have main : ∃ r, member.merge_member_Union_1.loop0 l ⟨[], rng l.length fun _ => 0⟩ = some r ∧ Asc r ∧ ∀ x, x ∈ r ↔ (∃ i, i < l.length ∧ x ∈ ix l (i : Int)) ∧ kept l (fun _ _ => true) x = true := by
    unfold member.merge_member_Union_1.loop0
    refine whileO_meas (fun t => ∃ a : Nat → Nat, t.v = rng l.length a ∧ MInv l (fun _ _ => true) t.out a) (fun t => sumN (fun j => (ix l (j : Int)).length) l.length - sumN (fun j => (ix t.v (j : Int)).toNat) l.length) _ (fun t => ?_) _ ⟨_, rfl, MInv.init l _⟩
    rintro ⟨a, e, hi⟩
    obtain ⟨out, v⟩ := t
    simp only at e hi
    subst e
    unfold member.merge_member_Union_1.body0
    obtain ⟨r, h1, hq⟩ := Union_2 (out := out) hl hi.le
    rw [h1]
    simp only [Option.bind_some]
    by_cases hs : r.2 = true
    · rw [if_neg (by simp [hs]), Union_4 hl hb1 hi.le r]
      obtain ⟨hm, hmin⟩ := hq.is hs
      have hpos : 0 < l.length := by obtain ⟨j, hj, _⟩ := hm; omega
      have hstep := hi.step hasc hm hmin
      have hcnt : (List.range l.length).countP (fun j => decide (hit l a r.1 j)) = cnt l r.1 := by
        refine List.countP_congr fun j hj => ?_
        have hj' : j < l.length := by simpa using hj
        simpa using hi.hit_iff hasc hm hmin hj'
      have hfirst : decide (0 < l.length ∧ hit l a r.1 0) = decide (r.1 ∈ ix l ((0 : Nat) : Int)) := by
        apply decide_eq_decide.2
        rw [← hi.hit_iff hasc hm hmin hpos]
        exact ⟨fun h => h.2, fun h => ⟨hpos, h⟩⟩
      rw [hcnt, hfirst]
      simp only [Option.bind_some]
      have hkeep : member.Union_1 (cnt l r.1 : Int) (decide (r.1 ∈ ix l ((0 : Nat) : Int))) = some (kept l (fun _ _ => true) r.1) := by
        rfl
      rw [hkeep]
      simp only [Option.bind_some]
      have hlen := hi.len
      have hsle : sumN a l.length ≤ sumN (fun j => (ix l (j : Int)).length) l.length := sumN_le hi.le
      have hsle2 : sumN (fun j => if hit l a r.1 j then a j + 1 else a j) l.length ≤ sumN (fun j => (ix l (j : Int)).length) l.length := sumN_le hstep.1.le
      have hmu : ∀ a' : Nat → Nat, sumN (fun j => (ix (rng l.length a') (j : Int)).toNat) l.length = sumN a' l.length := by
        intro a'
        apply Nat.le_antisymm
        · exact sumN_le fun j hj => by rw [ix_rng hj]; simp
        · exact sumN_le fun j hj => by rw [ix_rng hj]; simp
      by_cases hk : kept l (fun _ _ => true) r.1 = true
      · rw [if_pos hk, need_eq (by simp only [List.length_singleton]; omega)]
        rw [if_pos hk] at hstep
        refine .inl ⟨_, rfl, ⟨_, rfl, hstep.1⟩, ?_⟩
        simp only [hmu]
        have := hstep.2
        omega
      · rw [if_neg hk]
        rw [if_neg hk] at hstep
        refine .inl ⟨_, rfl, ⟨_, rfl, hstep.1⟩, ?_⟩
        simp only [hmu]
        have := hstep.2
        omega
    · rw [if_pos (by simp [hs])]
      exact .inr ⟨_, rfl, hi.done fun h => hs (hq.any.2 h)⟩
  obtain ⟨r, h1, h2⟩ := main
  rw [h1]
  exact ⟨r, rfl, h2⟩
end

/-! ### Inter -/
section
variable {l : List (List Str)} {out : List Str} {a : Nat → Nat}

theorem Inter_2 (hl : l.length ≤ 1000) (hle : ∀ j, j < l.length → a j ≤ (ix l (j : Int)).length) :
    ∃ r, member.merge_member_Inter_1.loop2 l ⟨out, rng l.length a⟩ ⟨[], false, 0⟩ = some r ∧ LQ l a l.length r.1 r.2 := by
  unfold member.merge_member_Inter_1.loop2
  refine whileO_meas (fun t => ∃ i : Nat, t.t18 = (i : Int) ∧ i ≤ l.length ∧ LQ l a i t.least t.some_) (fun t => l.length - t.t18.toNat) _ (fun t => ?_) _ ⟨0, rfl, by omega, { any := by simp, is := by simp }⟩
  rintro ⟨i, e, hi, hq⟩
  unfold member.merge_member_Inter_1.body2
  rw [e]
  by_cases hc : i < l.length
  · rw [if_pos (by omega)]
    simp only
    have hai := hle i hc
    have n1 : ∀ {α : Type} (x : Option α), need (InB (i : Int) l.length) x = x := fun x => need_eq ⟨by omega, by omega⟩
    simp only [need_v hc, n1, ix_rng hc]
    have hw : (IntKind.wrap .i64 ((i : Int) + 1)) = ((i + 1 : Nat) : Int) := by rw [i64w (by omega) (by omega)]; omega
    rw [hw]
    by_cases h1 : a i < (ix l (i : Int)).length
    · have n2 : ∀ {α : Type} (x : Option α), need (InB (a i : Int) (ix l (i : Int)).length) x = x := fun x => need_eq ⟨by omega, by omega⟩
      rw [if_pos (by omega)]
      simp only [n2]
      by_cases h2 : t.some_ = true
      · rw [if_neg (by simp [h2])]
        simp only [Option.bind_some]
        by_cases h3 : strLt (ix (ix l (i : Int)) (a i : Int)) t.least = true
        · rw [if_pos h3]
          refine .inl ⟨_, rfl, ⟨i + 1, rfl, by omega, ?_⟩, by show l.length - (((i + 1 : Nat) : Int)).toNat < l.length - (i : Int).toNat; omega⟩
          refine { any := ?_, is := ?_ }
          · exact ⟨fun _ => ⟨i, by omega, h1⟩, fun _ => rfl⟩
          · intro _
            refine ⟨⟨i, by omega, h1, rfl⟩, fun j hj hlt => ?_⟩
            by_cases ej : j = i
            · subst ej; exact strLt_irrefl _
            · have h4 := (hq.is h2).2 j (by omega) hlt
              show strLt _ (ix (ix l (i : Int)) (a i : Int)) = false
              cases h5 : strLt (ix (ix l (j : Int)) (a j : Int)) (ix (ix l (i : Int)) (a i : Int)) with
              | false => rfl
              | true => rw [strLt_trans h5 h3] at h4; cases h4
        · rw [if_neg h3]
          refine .inl ⟨_, rfl, ⟨i + 1, rfl, by omega, ?_⟩, by show l.length - (((i + 1 : Nat) : Int)).toNat < l.length - (i : Int).toNat; omega⟩
          refine { any := ?_, is := ?_ }
          · exact ⟨fun _ => ⟨i, by omega, h1⟩, fun _ => h2⟩
          · intro _
            obtain ⟨⟨j, hj, hh⟩, hmn⟩ := hq.is h2
            refine ⟨⟨j, by omega, hh⟩, fun j hj hlt => ?_⟩
            by_cases ej : j = i
            · subst ej; simpa using h3
            · exact hmn j (by omega) hlt
      · rw [if_pos (by simp [h2])]
        simp only [Option.bind_some, if_true]
        have hno : ¬ ∃ j, j < i ∧ a j < (ix l (j : Int)).length := fun h => h2 (hq.any.2 h)
        refine .inl ⟨_, rfl, ⟨i + 1, rfl, by omega, ?_⟩, by show l.length - (((i + 1 : Nat) : Int)).toNat < l.length - (i : Int).toNat; omega⟩
        refine { any := ?_, is := ?_ }
        · exact ⟨fun _ => ⟨i, by omega, h1⟩, fun _ => rfl⟩
        · intro _
          refine ⟨⟨i, by omega, h1, rfl⟩, fun j hj hlt => ?_⟩
          by_cases ej : j = i
          · subst ej; exact strLt_irrefl _
          · exact absurd ⟨j, by omega, hlt⟩ hno
    · rw [if_neg (by omega)]
      simp only [Option.bind_some, Bool.false_eq_true, if_false]
      refine .inl ⟨_, rfl, ⟨i + 1, rfl, by omega, ?_⟩, by show l.length - (((i + 1 : Nat) : Int)).toNat < l.length - (i : Int).toNat; omega⟩
      refine { any := ?_, is := ?_ }
      · refine hq.any.trans ⟨fun ⟨j, h2, h3⟩ => ⟨j, by omega, h3⟩, fun ⟨j, h2, h3⟩ => ?_⟩
        by_cases ej : j = i
        · subst ej; exact absurd h3 h1
        · exact ⟨j, by omega, h3⟩
      · intro hs
        obtain ⟨⟨j, hj, hh⟩, hmn⟩ := hq.is hs
        refine ⟨⟨j, by omega, hh⟩, fun j hj hlt => ?_⟩
        by_cases ej : j = i
        · subst ej; exact absurd hlt h1
        · exact hmn j (by omega) hlt
  · rw [if_neg (by omega)]
    obtain rfl : i = l.length := by omega
    exact .inr ⟨_, rfl, hq⟩

open Classical in
theorem Inter_4 (hl : l.length ≤ 1000) (hb : ∀ j, j < l.length → (ix l (j : Int)).length ≤ 1000000) (hle : ∀ j, j < l.length → a j ≤ (ix l (j : Int)).length) (s : Str × Bool) :
    member.merge_member_Inter_1.loop4 l s ⟨0, false, 0, rng l.length a⟩ = some ((((List.range l.length).countP fun j => decide (hit l a s.1 j) : Nat) : Int), decide (0 < l.length ∧ hit l a s.1 0), rng l.length fun j => if hit l a s.1 j then a j + 1 else a j) := by
  unfold member.merge_member_Inter_1.loop4
  let st : Nat → member.merge_member_Inter_1.S4 := fun i => ⟨(((List.range i).countP fun j => decide (hit l a s.1 j) : Nat) : Int), decide (0 < i ∧ hit l a s.1 0), (i : Int), rng l.length fun j => if j < i ∧ hit l a s.1 j then a j + 1 else a j⟩
  have h0 : (⟨0, false, 0, rng l.length a⟩ : member.merge_member_Inter_1.S4) = st 0 := by simp [st]
  refine whileO_knownE _ st l.length (fun i hi => ?_) ?_ h0
  · have hai := hle i hi
    have hbi := hb i hi
    have hcp : ((List.range i).countP fun j => decide (hit l a s.1 j)) ≤ i := by
      refine Nat.le_trans List.countP_le_length ?_; simp
    have hw : (IntKind.wrap .i64 ((i : Int) + 1)) = ((i + 1 : Nat) : Int) := by rw [i64w (by omega) (by omega)]; omega
    unfold member.merge_member_Inter_1.body4
    simp only [st]
    rw [if_pos (by omega)]
    have n1 : ∀ {α : Type} (x : Option α), need (InB (i : Int) l.length) x = x := fun x => need_eq ⟨by omega, by omega⟩
    simp only [need_v hi, n1, ix_rng hi, hw]
    have hat : (if i < i ∧ hit l a s.1 i then a i + 1 else a i) = a i := by rw [if_neg (by omega)]
    rw [hat]
    have hcount : (List.range (i + 1)).countP (fun j => decide (hit l a s.1 j)) = (List.range i).countP (fun j => decide (hit l a s.1 j)) + (if hit l a s.1 i then 1 else 0) := by
      rw [List.range_succ, List.countP_append, List.countP_singleton]; simp
    by_cases h1 : a i < (ix l (i : Int)).length
    · have n2 : ∀ {α : Type} (x : Option α), need (InB (a i : Int) (ix l (i : Int)).length) x = x := fun x => need_eq ⟨by omega, by omega⟩
      rw [if_pos (by omega)]
      simp only [n2, Option.bind_some]
      by_cases h2 : ix (ix l (i : Int)) (a i : Int) = s.1
      · have hh : hit l a s.1 i := ⟨h1, h2⟩
        have hv : upd (rng l.length fun j => if j < i ∧ hit l a s.1 j then a j + 1 else a j) (i : Int) (IntKind.wrap .i64 ((a i : Int) + 1)) = rng l.length fun j => if j < i + 1 ∧ hit l a s.1 j then a j + 1 else a j := by
          rw [i64w (by omega) (by omega), show (a i : Int) + 1 = ((a i + 1 : Nat) : Int) by omega, upd_rng hi]
          refine List.map_congr_left fun j hj => ?_
          by_cases ej : j = i
          · subst ej
            have e5 : (if j < j + 1 ∧ hit l a s.1 j then a j + 1 else a j) = a j + 1 := if_pos ⟨by omega, hh⟩
            simp only [e5, if_true]
          · have : j < i + 1 ↔ j < i := by omega
            simp [ej, this]
        have hn : IntKind.wrap .i64 ((((List.range i).countP fun j => decide (hit l a s.1 j) : Nat) : Int) + 1) = (((List.range (i + 1)).countP fun j => decide (hit l a s.1 j) : Nat) : Int) := by
          rw [i64w (by omega) (by omega), hcount, if_pos hh]; omega
        rw [if_pos (by rw [decide_eq_true_eq]; exact h2), hv, hn]
        by_cases hf : 0 < i ∧ hit l a s.1 0
        · have e1 : decide (0 < i ∧ hit l a s.1 0) = true := decide_eq_true hf
          have e2 : decide (0 < i + 1 ∧ hit l a s.1 0) = true := decide_eq_true ⟨by omega, hf.2⟩
          simp only [e1, e2, if_true, Option.bind_some]
        · have e1 : decide (0 < i ∧ hit l a s.1 0) = false := decide_eq_false hf
          have e2 : decide (0 < i + 1 ∧ hit l a s.1 0) = decide ((i : Int) = 0) := by
            apply decide_eq_decide.2
            constructor
            · intro h; by_cases e0 : i = 0
              · omega
              · exact absurd ⟨by omega, h.2⟩ hf
            · intro h
              have : i = 0 := by omega
              subst this
              exact ⟨by omega, hh⟩
          simp only [e1, e2, Bool.false_eq_true, if_false, Option.bind_some]
      · have hh : ¬ hit l a s.1 i := fun h => h2 h.2
        rw [if_neg (by rw [decide_eq_true_eq]; exact h2)]
        simp only [Option.bind_some]
        rw [hcount, if_neg hh, Nat.add_zero]
        have e2 : decide (0 < i + 1 ∧ hit l a s.1 0) = decide (0 < i ∧ hit l a s.1 0) := by
          apply decide_eq_decide.2
          by_cases e0 : i = 0
          · subst e0; exact ⟨fun h => absurd h.2 hh, fun h => absurd h.2 hh⟩
          · exact ⟨fun h => ⟨by omega, h.2⟩, fun h => ⟨by omega, h.2⟩⟩
        rw [e2]
        congr 3
        refine List.map_congr_left fun j hj => ?_
        by_cases ej : j = i
        · subst ej; simp [hh]
        · have : j < i + 1 ↔ j < i := by omega
          simp [this]
    · have hh : ¬ hit l a s.1 i := fun h => h1 h.1
      rw [if_neg (by omega)]
      simp only [Option.bind_some, Bool.false_eq_true, if_false]
      rw [hcount, if_neg hh, Nat.add_zero]
      have e2 : decide (0 < i + 1 ∧ hit l a s.1 0) = decide (0 < i ∧ hit l a s.1 0) := by
        apply decide_eq_decide.2
        by_cases e0 : i = 0
        · subst e0; exact ⟨fun h => absurd h.2 hh, fun h => absurd h.2 hh⟩
        · exact ⟨fun h => ⟨by omega, h.2⟩, fun h => ⟨by omega, h.2⟩⟩
      rw [e2]
      congr 3
      refine List.map_congr_left fun j hj => ?_
      by_cases ej : j = i
      · subst ej; simp [hh]
      · have : j < i + 1 ↔ j < i := by omega
        simp [this]
  · unfold member.merge_member_Inter_1.body4
    simp only [st]
    rw [if_neg (by omega)]
    congr 4
    refine List.map_congr_left fun j hj => ?_
    have : j < l.length := by simpa using hj
    simp [this]

theorem Inter_eq (hl : l.length ≤ 1000) (hb : sumN (fun j => (ix l (j : Int)).length) l.length ≤ 1000000) (hasc : ∀ x ∈ l, Asc x) :
    ∃ r, member.Inter l = some r ∧ Asc r ∧ ∀ x, x ∈ r ↔ (∃ i, i < l.length ∧ x ∈ ix l (i : Int)) ∧ kept l (fun n _ => decide (n = (l.length : Int))) x = true := by
  classical
  have hb1 : ∀ j, j < l.length → (ix l (j : Int)).length ≤ 1000000 := by
    intro j hj
    have : ∀ k, j < k → (ix l (j : Int)).length ≤ sumN (fun j => (ix l (j : Int)).length) k := by
      intro k
      induction k with
      | zero => intro h; omega
      | succ k ih =>
        intro h
        simp only [sumN]
        by_cases e : j = k
        · subst e; omega
        · have := ih (by omega); omega
    exact Nat.le_trans (this _ hj) hb
  unfold member.Inter member.merge_member_Inter_1
  rw [need_eq ⟨by omega, by omega⟩, Int.toNat_natCast, rng_zero]
  have main : ∃ r, member.merge_member_Inter_1.loop0 l l ⟨[], rng l.length fun _ => 0⟩ = some r ∧ Asc r ∧ ∀ x, x ∈ r ↔ (∃ i, i < l.length ∧ x ∈ ix l (i : Int)) ∧ kept l (fun n _ => decide (n = (l.length : Int))) x = true := by
    unfold member.merge_member_Inter_1.loop0
    refine whileO_meas (fun t => ∃ a : Nat → Nat, t.v = rng l.length a ∧ MInv l (fun n _ => decide (n = (l.length : Int))) t.out a) (fun t => sumN (fun j => (ix l (j : Int)).length) l.length - sumN (fun j => (ix t.v (j : Int)).toNat) l.length) _ (fun t => ?_) _ ⟨_, rfl, MInv.init l _⟩
    rintro ⟨a, e, hi⟩
    obtain ⟨out, v⟩ := t
    simp only at e hi
    subst e
    unfold member.merge_member_Inter_1.body0
    obtain ⟨r, h1, hq⟩ := Inter_2 (out := out) hl hi.le
    rw [h1]
    simp only [Option.bind_some]
    by_cases hs : r.2 = true
    · rw [if_neg (by simp [hs]), Inter_4 hl hb1 hi.le r]
      obtain ⟨hm, hmin⟩ := hq.is hs
      have hpos : 0 < l.length := by obtain ⟨j, hj, _⟩ := hm; omega
      have hstep := hi.step hasc hm hmin
      have hcnt : (List.range l.length).countP (fun j => decide (hit l a r.1 j)) = cnt l r.1 := by
        refine List.countP_congr fun j hj => ?_
        have hj' : j < l.length := by simpa using hj
        simpa using hi.hit_iff hasc hm hmin hj'
      have hfirst : decide (0 < l.length ∧ hit l a r.1 0) = decide (r.1 ∈ ix l ((0 : Nat) : Int)) := by
        apply decide_eq_decide.2
        rw [← hi.hit_iff hasc hm hmin hpos]
        exact ⟨fun h => h.2, fun h => ⟨hpos, h⟩⟩
      rw [hcnt, hfirst]
      simp only [Option.bind_some]
      have hkeep : member.Inter_1 (cnt l r.1 : Int) (decide (r.1 ∈ ix l ((0 : Nat) : Int))) l = some (kept l (fun n _ => decide (n = (l.length : Int))) r.1) := by
        rfl
      rw [hkeep]
      simp only [Option.bind_some]
      have hlen := hi.len
      have hsle : sumN a l.length ≤ sumN (fun j => (ix l (j : Int)).length) l.length := sumN_le hi.le
      have hsle2 : sumN (fun j => if hit l a r.1 j then a j + 1 else a j) l.length ≤ sumN (fun j => (ix l (j : Int)).length) l.length := sumN_le hstep.1.le
      have hmu : ∀ a' : Nat → Nat, sumN (fun j => (ix (rng l.length a') (j : Int)).toNat) l.length = sumN a' l.length := by
        intro a'
        apply Nat.le_antisymm
        · exact sumN_le fun j hj => by rw [ix_rng hj]; simp
        · exact sumN_le fun j hj => by rw [ix_rng hj]; simp
      by_cases hk : kept l (fun n _ => decide (n = (l.length : Int))) r.1 = true
      · rw [if_pos hk, need_eq (by simp only [List.length_singleton]; omega)]
        rw [if_pos hk] at hstep
        refine .inl ⟨_, rfl, ⟨_, rfl, hstep.1⟩, ?_⟩
        simp only [hmu]
        have := hstep.2
        omega
      · rw [if_neg hk]
        rw [if_neg hk] at hstep
        refine .inl ⟨_, rfl, ⟨_, rfl, hstep.1⟩, ?_⟩
        simp only [hmu]
        have := hstep.2
        omega
    · rw [if_pos (by simp [hs])]
      exact .inr ⟨_, rfl, hi.done fun h => hs (hq.any.2 h)⟩
  obtain ⟨r, h1, h2⟩ := main
  rw [h1]
  exact ⟨r, rfl, h2⟩
end

/-! ### Diff -/
section
variable {l : List (List Str)} {out : List Str} {a : Nat → Nat}

theorem Diff_2 (hl : l.length ≤ 1000) (hle : ∀ j, j < l.length → a j ≤ (ix l (j : Int)).length) :
    ∃ r, member.merge_member_Diff_1.loop2 l ⟨out, rng l.length a⟩ ⟨[], false, 0⟩ = some r ∧ LQ l a l.length r.1 r.2 := by
  unfold member.merge_member_Diff_1.loop2
  refine whileO_meas (fun t => ∃ i : Nat, t.t18 = (i : Int) ∧ i ≤ l.length ∧ LQ l a i t.least t.some_) (fun t => l.length - t.t18.toNat) _ (fun t => ?_) _ ⟨0, rfl, by omega, { any := by simp, is := by simp }⟩
  rintro ⟨i, e, hi, hq⟩
  unfold member.merge_member_Diff_1.body2
  rw [e]
  by_cases hc : i < l.length
  · rw [if_pos (by omega)]
    simp only
    have hai := hle i hc
    have n1 : ∀ {α : Type} (x : Option α), need (InB (i : Int) l.length) x = x := fun x => need_eq ⟨by omega, by omega⟩
    simp only [need_v hc, n1, ix_rng hc]
    have hw : (IntKind.wrap .i64 ((i : Int) + 1)) = ((i + 1 : Nat) : Int) := by rw [i64w (by omega) (by omega)]; omega
    rw [hw]
    by_cases h1 : a i < (ix l (i : Int)).length
    · have n2 : ∀ {α : Type} (x : Option α), need (InB (a i : Int) (ix l (i : Int)).length) x = x := fun x => need_eq ⟨by omega, by omega⟩
      rw [if_pos (by omega)]
      simp only [n2]
      by_cases h2 : t.some_ = true
      · rw [if_neg (by simp [h2])]
        simp only [Option.bind_some]
        by_cases h3 : strLt (ix (ix l (i : Int)) (a i : Int)) t.least = true
        · rw [if_pos h3]
          refine .inl ⟨_, rfl, ⟨i + 1, rfl, by omega, ?_⟩, by show l.length - (((i + 1 : Nat) : Int)).toNat < l.length - (i : Int).toNat; omega⟩
          refine { any := ?_, is := ?_ }
          · exact ⟨fun _ => ⟨i, by omega, h1⟩, fun _ => rfl⟩
          · intro _
            refine ⟨⟨i, by omega, h1, rfl⟩, fun j hj hlt => ?_⟩
            by_cases ej : j = i
            · subst ej; exact strLt_irrefl _
            · have h4 := (hq.is h2).2 j (by omega) hlt
              show strLt _ (ix (ix l (i : Int)) (a i : Int)) = false
              cases h5 : strLt (ix (ix l (j : Int)) (a j : Int)) (ix (ix l (i : Int)) (a i : Int)) with
              | false => rfl
              | true => rw [strLt_trans h5 h3] at h4; cases h4
        · rw [if_neg h3]
          refine .inl ⟨_, rfl, ⟨i + 1, rfl, by omega, ?_⟩, by show l.length - (((i + 1 : Nat) : Int)).toNat < l.length - (i : Int).toNat; omega⟩
          refine { any := ?_, is := ?_ }
          · exact ⟨fun _ => ⟨i, by omega, h1⟩, fun _ => h2⟩
          · intro _
            obtain ⟨⟨j, hj, hh⟩, hmn⟩ := hq.is h2
            refine ⟨⟨j, by omega, hh⟩, fun j hj hlt => ?_⟩
            by_cases ej : j = i
            · subst ej; simpa using h3
            · exact hmn j (by omega) hlt
      · rw [if_pos (by simp [h2])]
        simp only [Option.bind_some, if_true]
        have hno : ¬ ∃ j, j < i ∧ a j < (ix l (j : Int)).length := fun h => h2 (hq.any.2 h)
        refine .inl ⟨_, rfl, ⟨i + 1, rfl, by omega, ?_⟩, by show l.length - (((i + 1 : Nat) : Int)).toNat < l.length - (i : Int).toNat; omega⟩
        refine { any := ?_, is := ?_ }
        · exact ⟨fun _ => ⟨i, by omega, h1⟩, fun _ => rfl⟩
        · intro _
          refine ⟨⟨i, by omega, h1, rfl⟩, fun j hj hlt => ?_⟩
          by_cases ej : j = i
          · subst ej; exact strLt_irrefl _
          · exact absurd ⟨j, by omega, hlt⟩ hno
    · rw [if_neg (by omega)]
      simp only [Option.bind_some, Bool.false_eq_true, if_false]
      refine .inl ⟨_, rfl, ⟨i + 1, rfl, by omega, ?_⟩, by show l.length - (((i + 1 : Nat) : Int)).toNat < l.length - (i : Int).toNat; omega⟩
      refine { any := ?_, is := ?_ }
      · refine hq.any.trans ⟨fun ⟨j, h2, h3⟩ => ⟨j, by omega, h3⟩, fun ⟨j, h2, h3⟩ => ?_⟩
        by_cases ej : j = i
        · subst ej; exact absurd h3 h1
        · exact ⟨j, by omega, h3⟩
      · intro hs
        obtain ⟨⟨j, hj, hh⟩, hmn⟩ := hq.is hs
        refine ⟨⟨j, by omega, hh⟩, fun j hj hlt => ?_⟩
        by_cases ej : j = i
        · subst ej; exact absurd hlt h1
        · exact hmn j (by omega) hlt
  · rw [if_neg (by omega)]
    obtain rfl : i = l.length := by omega
    exact .inr ⟨_, rfl, hq⟩

open Classical in
theorem Diff_4 (hl : l.length ≤ 1000) (hb : ∀ j, j < l.length → (ix l (j : Int)).length ≤ 1000000) (hle : ∀ j, j < l.length → a j ≤ (ix l (j : Int)).length) (s : Str × Bool) :
    member.merge_member_Diff_1.loop4 l s ⟨0, false, 0, rng l.length a⟩ = some ((((List.range l.length).countP fun j => decide (hit l a s.1 j) : Nat) : Int), decide (0 < l.length ∧ hit l a s.1 0), rng l.length fun j => if hit l a s.1 j then a j + 1 else a j) := by
  unfold member.merge_member_Diff_1.loop4
  let st : Nat → member.merge_member_Diff_1.S4 := fun i => ⟨(((List.range i).countP fun j => decide (hit l a s.1 j) : Nat) : Int), decide (0 < i ∧ hit l a s.1 0), (i : Int), rng l.length fun j => if j < i ∧ hit l a s.1 j then a j + 1 else a j⟩
  have h0 : (⟨0, false, 0, rng l.length a⟩ : member.merge_member_Diff_1.S4) = st 0 := by simp [st]
  refine whileO_knownE _ st l.length (fun i hi => ?_) ?_ h0
  · have hai := hle i hi
    have hbi := hb i hi
    have hcp : ((List.range i).countP fun j => decide (hit l a s.1 j)) ≤ i := by
      refine Nat.le_trans List.countP_le_length ?_; simp
    have hw : (IntKind.wrap .i64 ((i : Int) + 1)) = ((i + 1 : Nat) : Int) := by rw [i64w (by omega) (by omega)]; omega
    unfold member.merge_member_Diff_1.body4
    simp only [st]
    rw [if_pos (by omega)]
    have n1 : ∀ {α : Type} (x : Option α), need (InB (i : Int) l.length) x = x := fun x => need_eq ⟨by omega, by omega⟩
    simp only [need_v hi, n1, ix_rng hi, hw]
    have hat : (if i < i ∧ hit l a s.1 i then a i + 1 else a i) = a i := by rw [if_neg (by omega)]
    rw [hat]
    have hcount : (List.range (i + 1)).countP (fun j => decide (hit l a s.1 j)) = (List.range i).countP (fun j => decide (hit l a s.1 j)) + (if hit l a s.1 i then 1 else 0) := by
      rw [List.range_succ, List.countP_append, List.countP_singleton]; simp
    by_cases h1 : a i < (ix l (i : Int)).length
    · have n2 : ∀ {α : Type} (x : Option α), need (InB (a i : Int) (ix l (i : Int)).length) x = x := fun x => need_eq ⟨by omega, by omega⟩
      rw [if_pos (by omega)]
      simp only [n2, Option.bind_some]
      by_cases h2 : ix (ix l (i : Int)) (a i : Int) = s.1
      · have hh : hit l a s.1 i := ⟨h1, h2⟩
        have hv : upd (rng l.length fun j => if j < i ∧ hit l a s.1 j then a j + 1 else a j) (i : Int) (IntKind.wrap .i64 ((a i : Int) + 1)) = rng l.length fun j => if j < i + 1 ∧ hit l a s.1 j then a j + 1 else a j := by
          rw [i64w (by omega) (by omega), show (a i : Int) + 1 = ((a i + 1 : Nat) : Int) by omega, upd_rng hi]
          refine List.map_congr_left fun j hj => ?_
          by_cases ej : j = i
          · subst ej
            have e5 : (if j < j + 1 ∧ hit l a s.1 j then a j + 1 else a j) = a j + 1 := if_pos ⟨by omega, hh⟩
            simp only [e5, if_true]
          · have : j < i + 1 ↔ j < i := by omega
            simp [ej, this]
        have hn : IntKind.wrap .i64 ((((List.range i).countP fun j => decide (hit l a s.1 j) : Nat) : Int) + 1) = (((List.range (i + 1)).countP fun j => decide (hit l a s.1 j) : Nat) : Int) := by
          rw [i64w (by omega) (by omega), hcount, if_pos hh]; omega
        rw [if_pos (by rw [decide_eq_true_eq]; exact h2), hv, hn]
        by_cases hf : 0 < i ∧ hit l a s.1 0
        · have e1 : decide (0 < i ∧ hit l a s.1 0) = true := decide_eq_true hf
          have e2 : decide (0 < i + 1 ∧ hit l a s.1 0) = true := decide_eq_true ⟨by omega, hf.2⟩
          simp only [e1, e2, if_true, Option.bind_some]
        · have e1 : decide (0 < i ∧ hit l a s.1 0) = false := decide_eq_false hf
          have e2 : decide (0 < i + 1 ∧ hit l a s.1 0) = decide ((i : Int) = 0) := by
            apply decide_eq_decide.2
            constructor
            · intro h; by_cases e0 : i = 0
              · omega
              · exact absurd ⟨by omega, h.2⟩ hf
            · intro h
              have : i = 0 := by omega
              subst this
              exact ⟨by omega, hh⟩
          simp only [e1, e2, Bool.false_eq_true, if_false, Option.bind_some]
      · have hh : ¬ hit l a s.1 i := fun h => h2 h.2
        rw [if_neg (by rw [decide_eq_true_eq]; exact h2)]
        simp only [Option.bind_some]
        rw [hcount, if_neg hh, Nat.add_zero]
        have e2 : decide (0 < i + 1 ∧ hit l a s.1 0) = decide (0 < i ∧ hit l a s.1 0) := by
          apply decide_eq_decide.2
          by_cases e0 : i = 0
          · subst e0; exact ⟨fun h => absurd h.2 hh, fun h => absurd h.2 hh⟩
          · exact ⟨fun h => ⟨by omega, h.2⟩, fun h => ⟨by omega, h.2⟩⟩
        rw [e2]
        congr 3
        refine List.map_congr_left fun j hj => ?_
        by_cases ej : j = i
        · subst ej; simp [hh]
        · have : j < i + 1 ↔ j < i := by omega
          simp [this]
    · have hh : ¬ hit l a s.1 i := fun h => h1 h.1
      rw [if_neg (by omega)]
      simp only [Option.bind_some, Bool.false_eq_true, if_false]
      rw [hcount, if_neg hh, Nat.add_zero]
      have e2 : decide (0 < i + 1 ∧ hit l a s.1 0) = decide (0 < i ∧ hit l a s.1 0) := by
        apply decide_eq_decide.2
        by_cases e0 : i = 0
        · subst e0; exact ⟨fun h => absurd h.2 hh, fun h => absurd h.2 hh⟩
        · exact ⟨fun h => ⟨by omega, h.2⟩, fun h => ⟨by omega, h.2⟩⟩
      rw [e2]
      congr 3
      refine List.map_congr_left fun j hj => ?_
      by_cases ej : j = i
      · subst ej; simp [hh]
      · have : j < i + 1 ↔ j < i := by omega
        simp [this]
  · unfold member.merge_member_Diff_1.body4
    simp only [st]
    rw [if_neg (by omega)]
    congr 4
    refine List.map_congr_left fun j hj => ?_
    have : j < l.length := by simpa using hj
    simp [this]

theorem Diff_eq (hl : l.length ≤ 1000) (hb : sumN (fun j => (ix l (j : Int)).length) l.length ≤ 1000000) (hasc : ∀ x ∈ l, Asc x) :
    ∃ r, member.Diff l = some r ∧ Asc r ∧ ∀ x, x ∈ r ↔ (∃ i, i < l.length ∧ x ∈ ix l (i : Int)) ∧ kept l (fun n f => f && decide (n = 1)) x = true := by
  classical
  have hb1 : ∀ j, j < l.length → (ix l (j : Int)).length ≤ 1000000 := by
    intro j hj
    have : ∀ k, j < k → (ix l (j : Int)).length ≤ sumN (fun j => (ix l (j : Int)).length) k := by
      intro k
      induction k with
      | zero => intro h; omega
      | succ k ih =>
        intro h
        simp only [sumN]
        by_cases e : j = k
        · subst e; omega
        · have := ih (by omega); omega
    exact Nat.le_trans (this _ hj) hb
  unfold member.Diff member.merge_member_Diff_1
  rw [need_eq ⟨by omega, by omega⟩, Int.toNat_natCast, rng_zero]
  have main : ∃ r, member.merge_member_Diff_1.loop0 l ⟨[], rng l.length fun _ => 0⟩ = some r ∧ Asc r ∧ ∀ x, x ∈ r ↔ (∃ i, i < l.length ∧ x ∈ ix l (i : Int)) ∧ kept l (fun n f => f && decide (n = 1)) x = true := by
    unfold member.merge_member_Diff_1.loop0
    refine whileO_meas (fun t => ∃ a : Nat → Nat, t.v = rng l.length a ∧ MInv l (fun n f => f && decide (n = 1)) t.out a) (fun t => sumN (fun j => (ix l (j : Int)).length) l.length - sumN (fun j => (ix t.v (j : Int)).toNat) l.length) _ (fun t => ?_) _ ⟨_, rfl, MInv.init l _⟩
    rintro ⟨a, e, hi⟩
    obtain ⟨out, v⟩ := t
    simp only at e hi
    subst e
    unfold member.merge_member_Diff_1.body0
    obtain ⟨r, h1, hq⟩ := Diff_2 (out := out) hl hi.le
    rw [h1]
    simp only [Option.bind_some]
    by_cases hs : r.2 = true
    · rw [if_neg (by simp [hs]), Diff_4 hl hb1 hi.le r]
      obtain ⟨hm, hmin⟩ := hq.is hs
      have hpos : 0 < l.length := by obtain ⟨j, hj, _⟩ := hm; omega
      have hstep := hi.step hasc hm hmin
      have hcnt : (List.range l.length).countP (fun j => decide (hit l a r.1 j)) = cnt l r.1 := by
        refine List.countP_congr fun j hj => ?_
        have hj' : j < l.length := by simpa using hj
        simpa using hi.hit_iff hasc hm hmin hj'
      have hfirst : decide (0 < l.length ∧ hit l a r.1 0) = decide (r.1 ∈ ix l ((0 : Nat) : Int)) := by
        apply decide_eq_decide.2
        rw [← hi.hit_iff hasc hm hmin hpos]
        exact ⟨fun h => h.2, fun h => ⟨hpos, h⟩⟩
      rw [hcnt, hfirst]
      simp only [Option.bind_some]
      have hkeep : member.Diff_1 (cnt l r.1 : Int) (decide (r.1 ∈ ix l ((0 : Nat) : Int))) = some (kept l (fun n f => f && decide (n = 1)) r.1) := by
        unfold member.Diff_1 kept letO; cases decide (r.1 ∈ ix l ((0 : Nat) : Int)) <;> simp
      rw [hkeep]
      simp only [Option.bind_some]
      have hlen := hi.len
      have hsle : sumN a l.length ≤ sumN (fun j => (ix l (j : Int)).length) l.length := sumN_le hi.le
      have hsle2 : sumN (fun j => if hit l a r.1 j then a j + 1 else a j) l.length ≤ sumN (fun j => (ix l (j : Int)).length) l.length := sumN_le hstep.1.le
      have hmu : ∀ a' : Nat → Nat, sumN (fun j => (ix (rng l.length a') (j : Int)).toNat) l.length = sumN a' l.length := by
        intro a'
        apply Nat.le_antisymm
        · exact sumN_le fun j hj => by rw [ix_rng hj]; simp
        · exact sumN_le fun j hj => by rw [ix_rng hj]; simp
      by_cases hk : kept l (fun n f => f && decide (n = 1)) r.1 = true
      · rw [if_pos hk, need_eq (by simp only [List.length_singleton]; omega)]
        rw [if_pos hk] at hstep
        refine .inl ⟨_, rfl, ⟨_, rfl, hstep.1⟩, ?_⟩
        simp only [hmu]
        have := hstep.2
        omega
      · rw [if_neg hk]
        rw [if_neg hk] at hstep
        refine .inl ⟨_, rfl, ⟨_, rfl, hstep.1⟩, ?_⟩
        simp only [hmu]
        have := hstep.2
        omega
    · rw [if_pos (by simp [hs])]
      exact .inr ⟨_, rfl, hi.done fun h => hs (hq.any.2 h)⟩
  obtain ⟨r, h1, h2⟩ := main
  rw [h1]
  exact ⟨r, rfl, h2⟩
end

end Go.Pu
