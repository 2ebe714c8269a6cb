/- Chapter 23: the pure laws MemberJoins, MemberParts. (Two loops of the reference are printed by mem3.py.) -/
import Derived.Test.YtbegfakopnaagaaMMPuMem2
set_option maxRecDepth 100000
namespace Go.Pu
open Go.Lift

theorem alive23 : mewslaw23.alive = some true := mewslaw23.alive.c_le 100 true (by decide +kernel)

abbrev lens (l : List (List Str)) : Nat := sumN (fun j => (ix l (j : Int)).length) l.length

theorem sumN_get {f : Nat → Nat} : ∀ {k j : Nat}, j < k → f j ≤ sumN f k
  | 0, _, h => by omega
  | k + 1, j, h => by
    simp only [sumN]
    by_cases e : j = k
    · subst e; omega
    · have := sumN_get (f := f) (k := k) (j := j) (by omega); omega
theorem sumN_mono {f : Nat → Nat} : ∀ {k j : Nat}, j ≤ k → sumN f j ≤ sumN f k
  | 0, j, h => by obtain rfl : j = 0 := by omega
                  exact Nat.le_refl _
  | k + 1, j, h => by
    by_cases e : j = k + 1
    · subst e; exact Nat.le_refl _
    · have := sumN_mono (f := f) (k := k) (j := j) (by omega); simp only [sumN]; omega

theorem far23_eq (l : List (List Str)) (hl : l.length < 1000000000000000) (hb : ∀ x ∈ l, x.length < 1000000000000000) : ∃ b, mewslaw23.far l = some b ∧ (b = false → lens l ≤ 300 ∧ l.length ≤ 20) := by
  have inner : ∀ (s : mewslaw23.far.S0) (i : Nat), s.t10 = (i : Int) → i < l.length → mewslaw23.far.loop2 l s ⟨0⟩ = some (.inl ()) ∨ mewslaw23.far.loop2 l s ⟨0⟩ = some (.inr (.inr (.inr true))) := by
    intro s i e hi
    have hli := hb (ix l (i : Int)) (by rw [ix_get hi]; exact List.getElem_mem hi)
    obtain ⟨r, h1, h2⟩ : ∃ r, mewslaw23.far.loop2 l s ⟨0⟩ = some r ∧ (r = .inl () ∨ r = .inr (.inr (.inr true))) := by
      unfold mewslaw23.far.loop2
      refine whileO_meas (fun t => ∃ q : Nat, t.t22 = (q : Int) ∧ q ≤ (ix l (i : Int)).length) (fun t => (ix l (i : Int)).length - t.t22.toNat) _ (fun t => ?_) _ ⟨0, rfl, by omega⟩
      rintro ⟨q, eq, hq⟩
      unfold mewslaw23.far.body2
      rw [e, eq]
      by_cases hc : q < (ix l (i : Int)).length
      · rw [if_pos (by omega), need_eq ⟨by omega, by omega⟩]
        refine (ite_or _ _ _).elim (fun h => .inr ⟨_, h, .inr rfl⟩) (fun h => .inl ⟨_, h, ⟨q + 1, ?_, by omega⟩, ?_⟩)
        · show IntKind.wrap .i64 ((q : Int) + 1) = ((q + 1 : Nat) : Int)
          rw [i64w (by omega) (by omega)]; omega
        · show _ - (IntKind.wrap .i64 ((q : Int) + 1)).toNat < _ - (q : Int).toNat
          rw [i64w (by omega) (by omega)]; omega
      · rw [if_neg (by omega)]
        exact .inr ⟨_, rfl, .inl rfl⟩
    rcases h2 with h2 | h2
    · exact .inl (by rw [h1, h2])
    · exact .inr (by rw [h1, h2])
  obtain ⟨r, h1, h2⟩ : ∃ r, mewslaw23.far.loop0 l ⟨0, 0⟩ = some r ∧ (r = .inr true ∨ (r = .inl () ∧ lens l ≤ 300)) := by
    unfold mewslaw23.far.loop0
    refine whileO_meas (fun t => ∃ i : Nat, t.t10 = (i : Int) ∧ i ≤ l.length ∧ t.n = (sumN (fun j => (ix l (j : Int)).length) i : Int) ∧ sumN (fun j => (ix l (j : Int)).length) i ≤ 300) (fun t => l.length - t.t10.toNat) _ (fun t => ?_) _ ⟨0, rfl, by omega, rfl, by simp [sumN]⟩
    rintro ⟨i, e, hi, en, hn⟩
    unfold mewslaw23.far.body0
    by_cases hc : i < l.length
    · have hli := hb (ix l (i : Int)) (by rw [ix_get hc]; exact List.getElem_mem hc)
      have hin := inner t i e hc
      rw [e, if_pos (by omega), need_eq ⟨by omega, by omega⟩, en, i64w (n := _ + _) (by omega) (by omega)]
      by_cases h3 : 300 < (sumN (fun j => (ix l (j : Int)).length) i : Int) + ((ix l (i : Int)).length : Int)
      · rw [if_pos h3]
        exact .inr ⟨_, rfl, .inl rfl⟩
      · rw [if_neg h3]
        rcases hin with hin | hin
        · rw [hin]
          refine .inl ⟨_, rfl, ⟨i + 1, ?_, by omega, ?_, ?_⟩, ?_⟩
          · show IntKind.wrap .i64 ((i : Int) + 1) = ((i + 1 : Nat) : Int)
            rw [i64w (by omega) (by omega)]; omega
          · show (sumN (fun j => (ix l (j : Int)).length) i : Int) + ((ix l (i : Int)).length : Int) = _
            simp only [sumN]; omega
          · simp only [sumN]; omega
          · show _ - (IntKind.wrap .i64 ((i : Int) + 1)).toNat < _ - (i : Int).toNat
            rw [i64w (by omega) (by omega)]; omega
        · rw [hin]
          exact .inr ⟨_, rfl, .inl rfl⟩
    · rw [e, if_neg (by omega)]
      obtain rfl : i = l.length := by omega
      exact .inr ⟨_, rfl, .inr ⟨rfl, hn⟩⟩
  unfold mewslaw23.far
  rw [h1]
  rcases h2 with rfl | ⟨rfl, h2⟩
  · exact ⟨true, rfl, fun h => by cases h⟩
  · refine ⟨decide (20 < (l.length : Int)), rfl, fun h => ⟨h2, ?_⟩⟩
    rw [decide_eq_false_iff_not] at h; omega

theorem rUnion_eq (l : List (List Str)) (hl : l.length ≤ 1000) (hb : lens l ≤ 100000) : ∃ r, mewsref23.Union l = some r ∧ Asc r ∧ ∀ x, x ∈ r ↔ ∃ i, i < l.length ∧ x ∈ ix l (i : Int) := by
  obtain ⟨r, h1, h2⟩ : ∃ r, mewsref23.Union.loop0 l ⟨[], 0⟩ = some r ∧ Asc r ∧ ∀ x, x ∈ r ↔ ∃ i, i < l.length ∧ x ∈ ix l (i : Int) := by
    unfold mewsref23.Union.loop0
    refine whileO_meas (fun t => ∃ i : Nat, t.i = (i : Int) ∧ i ≤ l.length ∧ Asc t.out ∧ (∀ x, x ∈ t.out ↔ ∃ j, j < i ∧ x ∈ ix l (j : Int)) ∧ t.out.length ≤ sumN (fun j => (ix l (j : Int)).length) i) (fun t => l.length - t.i.toNat) _ (fun t => ?_) _ ⟨0, rfl, by omega, by exact List.Pairwise.nil, by simp, by simp⟩
    rintro ⟨i, e, hi, hasc, hmem, hlen⟩
    have hb' : sumN (fun j => (ix l (j : Int)).length) l.length ≤ 100000 := hb
    unfold mewsref23.Union.body0
    rw [e]
    by_cases hc : i < l.length
    · have h3 := sumN_mono (f := fun j => (ix l (j : Int)).length) (k := l.length) (j := i + 1) (by omega)
      simp only [sumN] at h3
      obtain ⟨r, n, g1, g2, g3, g4⟩ := rPut_eq t.out (ix l (i : Int)) (by omega) hasc
      rw [if_pos (by omega), need_eq ⟨by omega, by omega⟩, g1]
      refine .inl ⟨_, rfl, ⟨i + 1, ?_, by omega, g2, ?_, ?_⟩, ?_⟩
      · show IntKind.wrap .i64 ((i : Int) + 1) = ((i + 1 : Nat) : Int)
        rw [i64w (by omega) (by omega)]; omega
      · intro x
        show x ∈ r ↔ _
        rw [g3 x, hmem x]
        constructor
        · rintro (⟨j, h4, h5⟩ | h4)
          · exact ⟨j, by omega, h5⟩
          · exact ⟨i, by omega, h4⟩
        · rintro ⟨j, h4, h5⟩
          by_cases ej : j = i
          · subst ej; exact .inr h5
          · exact .inl ⟨j, by omega, h5⟩
      · show r.length ≤ _
        simp only [sumN]; omega
      · show _ - (IntKind.wrap .i64 ((i : Int) + 1)).toNat < _ - (i : Int).toNat
        rw [i64w (by omega) (by omega)]; omega
    · rw [if_neg (by omega)]
      obtain rfl : i = l.length := by omega
      exact .inr ⟨_, rfl, hasc, hmem⟩
  unfold mewsref23.Union
  rw [h1]
  exact ⟨r, rfl, h2⟩

/-! ### Inter of the reference -/
open Classical in
theorem rInter_2 (l : List (List Str)) (hl : l.length ≤ 1000) (hb : ∀ j, j < l.length → (ix l (j : Int)).length ≤ 1000000) (s : mewsref23.Inter.S0) (k : Nat) (e : s.k = (k : Int)) (hk : k < (ix l 0).length) (h0 : 0 < l.length) :
    mewsref23.Inter.loop2 l s ⟨true, 1⟩ = some (decide (∀ i, 1 ≤ i → i < l.length → (ix (ix l 0) (k : Int) ∈ ix l (i : Int)))) := by
  unfold mewsref23.Inter.loop2
  let st : Nat → mewsref23.Inter.S2 := fun i => ⟨decide (∀ j, 1 ≤ j → j < i → (ix (ix l 0) (k : Int) ∈ ix l (j : Int))), (i : Int)⟩
  have hs0 : (⟨true, 1⟩ : mewsref23.Inter.S2) = st 1 := by
    have : (∀ j : Nat, 1 ≤ j → j < 1 → (ix (ix l 0) (k : Int) ∈ ix l (j : Int))) := fun j h1 h2 => by omega
    simp only [st]
    rw [decide_eq_true this]; rfl
  rw [hs0]
  refine whileO_to st l.length 1 (by omega) (fun i h1 hi => ?_) (whileO_end ?_)
  · have hbi := hb i hi
    unfold mewsref23.Inter.body2
    simp only [st]
    rw [if_pos (by omega), need_eq ⟨by omega, by omega⟩, need_eq ⟨by omega, by omega⟩, e, need_eq ⟨by omega, by omega⟩, rHas_eq _ _ (by omega), i64w (by omega) (by omega)]
    have ei : (i : Int) + 1 = ((i + 1 : Nat) : Int) := by omega
    rw [ei]
    by_cases hall : ∀ j, 1 ≤ j → j < i → (ix (ix l 0) (k : Int) ∈ ix l (j : Int))
    · rw [if_pos (decide_eq_true hall)]
      have : decide (∀ j, 1 ≤ j → j < i + 1 → (ix (ix l 0) (k : Int) ∈ ix l (j : Int))) = decide (ix (ix l 0) (k : Int) ∈ ix l (i : Int)) := by
        by_cases hx : ix (ix l 0) (k : Int) ∈ ix l (i : Int)
        · rw [decide_eq_true hx]
          exact decide_eq_true fun j h1 h2 => by
            by_cases ej : j = i
            · subst ej; exact hx
            · exact hall j h1 (by omega)
        · rw [decide_eq_false hx]
          exact decide_eq_false fun h => hx (h i h1 (by omega))
      simp only [Option.bind_some, this]
    · rw [if_neg (by rw [decide_eq_true_eq]; exact hall)]
      have : ¬ ∀ j, 1 ≤ j → j < i + 1 → (ix (ix l 0) (k : Int) ∈ ix l (j : Int)) := fun h => hall fun j h1 h2 => h j h1 (by omega)
      simp only [Option.bind_some, decide_eq_false this]
  · unfold mewsref23.Inter.body2
    simp only [st]
    rw [if_neg (by omega)]

open Classical in
theorem rInter_eq (l : List (List Str)) (hl : l.length ≤ 1000) (hb : ∀ j, j < l.length → (ix l (j : Int)).length ≤ 1000000) (hasc : ∀ x ∈ l, Asc x) :
    ∃ r, mewsref23.Inter l = some r ∧ Asc r ∧ ∀ x, x ∈ r ↔ 0 < l.length ∧ x ∈ ix l ((0 : Nat) : Int) ∧ ∀ i, 1 ≤ i → i < l.length → (x ∈ ix l (i : Int)) := by
  unfold mewsref23.Inter mewsref23.Inter.loop0
  by_cases h0 : 0 < l.length
  · let p : Str → Bool := fun x => decide (∀ i, 1 ≤ i → i < l.length → (x ∈ ix l (i : Int)))
    have hb0 : (ix l 0).length ≤ 1000000 := hb 0 h0
    rw [whileO_knownE ⟨[], 0⟩ (fun k => (⟨((ix l 0).take k).filter p, (k : Int)⟩ : mewsref23.Inter.S0)) (ix l 0).length (r := (ix l 0).filter p) ?_ ?_]
    · refine ⟨_, rfl, List.Pairwise.filter _ ?_, fun x => ?_⟩
      · apply hasc
        rw [show ix l 0 = l[0] from ix_get (i := 0) h0]
        exact List.getElem_mem h0
      · rw [List.mem_filter]
        simp only [p, decide_eq_true_eq]
        exact ⟨fun h => ⟨h0, h⟩, fun h => h.2⟩
    · intro k hk
      unfold mewsref23.Inter.body0
      have hfl : (((ix l 0).take k).filter p).length ≤ k := by
        refine Nat.le_trans (List.length_filter_le _ _) ?_
        rw [List.length_take]; omega
      have h3 : ((ix l 0).take (k + 1)).filter p = if p (ix (ix l 0) (k : Int)) = true then ((ix l 0).take k).filter p ++ [ix (ix l 0) (k : Int)] else ((ix l 0).take k).filter p := by
        rw [List.take_add_one, List.getElem?_eq_getElem hk, List.filter_append, ix_get hk]
        by_cases hp : p (ix l 0)[k] = true
        · rw [if_pos hp]; simp [hp]
        · rw [if_neg hp]; simp [hp]
      rw [if_pos (by omega), need_eq ⟨by omega, by omega⟩]
      simp only [Option.bind_some]
      rw [if_pos (by rw [decide_eq_true_eq]; omega), rInter_2 l hl hb _ k rfl hk h0]
      simp only [Option.bind_some]
      rw [need_eq ⟨by omega, by omega⟩, need_eq ⟨by omega, by omega⟩, need_eq (by simp only [List.length_singleton]; omega), i64w (by omega) (by omega), show (k : Int) + 1 = ((k + 1 : Nat) : Int) by omega, h3]
      by_cases hp : p (ix (ix l 0) (k : Int)) = true
      · rw [if_pos hp, if_pos hp]; rfl
      · rw [if_neg hp, if_neg hp]; rfl
    · unfold mewsref23.Inter.body0
      rw [if_pos (by omega), need_eq ⟨by omega, by omega⟩]
      simp
  · rw [whileO_end (r := []) (by
      unfold mewsref23.Inter.body0
      rw [if_neg (by omega)]; rfl)]
    refine ⟨_, rfl, List.Pairwise.nil, fun x => ?_⟩
    constructor
    · intro h; simp at h
    · intro h; exact absurd h.1 h0

/-! ### Diff of the reference -/
open Classical in
theorem rDiff_2 (l : List (List Str)) (hl : l.length ≤ 1000) (hb : ∀ j, j < l.length → (ix l (j : Int)).length ≤ 1000000) (s : mewsref23.Diff.S0) (k : Nat) (e : s.k = (k : Int)) (hk : k < (ix l 0).length) (h0 : 0 < l.length) :
    mewsref23.Diff.loop2 l s ⟨true, 1⟩ = some (decide (∀ i, 1 ≤ i → i < l.length → ¬ (ix (ix l 0) (k : Int) ∈ ix l (i : Int)))) := by
  unfold mewsref23.Diff.loop2
  let st : Nat → mewsref23.Diff.S2 := fun i => ⟨decide (∀ j, 1 ≤ j → j < i → ¬ (ix (ix l 0) (k : Int) ∈ ix l (j : Int))), (i : Int)⟩
  have hs0 : (⟨true, 1⟩ : mewsref23.Diff.S2) = st 1 := by
    have : (∀ j : Nat, 1 ≤ j → j < 1 → ¬ (ix (ix l 0) (k : Int) ∈ ix l (j : Int))) := fun j h1 h2 => by omega
    simp only [st]
    rw [decide_eq_true this]; rfl
  rw [hs0]
  refine whileO_to st l.length 1 (by omega) (fun i h1 hi => ?_) (whileO_end ?_)
  · have hbi := hb i hi
    unfold mewsref23.Diff.body2
    simp only [st]
    rw [if_pos (by omega), need_eq ⟨by omega, by omega⟩, need_eq ⟨by omega, by omega⟩, e, need_eq ⟨by omega, by omega⟩, rHas_eq _ _ (by omega), i64w (by omega) (by omega)]
    have ei : (i : Int) + 1 = ((i + 1 : Nat) : Int) := by omega
    rw [ei]
    by_cases hall : ∀ j, 1 ≤ j → j < i → ¬ (ix (ix l 0) (k : Int) ∈ ix l (j : Int))
    · rw [if_pos (decide_eq_true hall)]
      have : decide (∀ j, 1 ≤ j → j < i + 1 → ¬ (ix (ix l 0) (k : Int) ∈ ix l (j : Int))) = !decide (ix (ix l 0) (k : Int) ∈ ix l (i : Int)) := by
        by_cases hx : ix (ix l 0) (k : Int) ∈ ix l (i : Int)
        · rw [decide_eq_true hx]
          exact decide_eq_false fun h => h i h1 (by omega) hx
        · rw [decide_eq_false hx]
          exact decide_eq_true fun j h1 h2 => by
            by_cases ej : j = i
            · subst ej; exact hx
            · exact hall j h1 (by omega)
      simp only [Option.bind_some, this]
    · rw [if_neg (by rw [decide_eq_true_eq]; exact hall)]
      have : ¬ ∀ j, 1 ≤ j → j < i + 1 → ¬ (ix (ix l 0) (k : Int) ∈ ix l (j : Int)) := fun h => hall fun j h1 h2 => h j h1 (by omega)
      simp only [Option.bind_some, decide_eq_false this]
  · unfold mewsref23.Diff.body2
    simp only [st]
    rw [if_neg (by omega)]

open Classical in
theorem rDiff_eq (l : List (List Str)) (hl : l.length ≤ 1000) (hb : ∀ j, j < l.length → (ix l (j : Int)).length ≤ 1000000) (hasc : ∀ x ∈ l, Asc x) :
    ∃ r, mewsref23.Diff l = some r ∧ Asc r ∧ ∀ x, x ∈ r ↔ 0 < l.length ∧ x ∈ ix l ((0 : Nat) : Int) ∧ ∀ i, 1 ≤ i → i < l.length → ¬ (x ∈ ix l (i : Int)) := by
  unfold mewsref23.Diff mewsref23.Diff.loop0
  by_cases h0 : 0 < l.length
  · let p : Str → Bool := fun x => decide (∀ i, 1 ≤ i → i < l.length → ¬ (x ∈ ix l (i : Int)))
    have hb0 : (ix l 0).length ≤ 1000000 := hb 0 h0
    rw [whileO_knownE ⟨[], 0⟩ (fun k => (⟨((ix l 0).take k).filter p, (k : Int)⟩ : mewsref23.Diff.S0)) (ix l 0).length (r := (ix l 0).filter p) ?_ ?_]
    · refine ⟨_, rfl, List.Pairwise.filter _ ?_, fun x => ?_⟩
      · apply hasc
        rw [show ix l 0 = l[0] from ix_get (i := 0) h0]
        exact List.getElem_mem h0
      · rw [List.mem_filter]
        simp only [p, decide_eq_true_eq]
        exact ⟨fun h => ⟨h0, h⟩, fun h => h.2⟩
    · intro k hk
      unfold mewsref23.Diff.body0
      have hfl : (((ix l 0).take k).filter p).length ≤ k := by
        refine Nat.le_trans (List.length_filter_le _ _) ?_
        rw [List.length_take]; omega
      have h3 : ((ix l 0).take (k + 1)).filter p = if p (ix (ix l 0) (k : Int)) = true then ((ix l 0).take k).filter p ++ [ix (ix l 0) (k : Int)] else ((ix l 0).take k).filter p := by
        rw [List.take_add_one, List.getElem?_eq_getElem hk, List.filter_append, ix_get hk]
        by_cases hp : p (ix l 0)[k] = true
        · rw [if_pos hp]; simp [hp]
        · rw [if_neg hp]; simp [hp]
      rw [if_pos (by omega), need_eq ⟨by omega, by omega⟩]
      simp only [Option.bind_some]
      rw [if_pos (by rw [decide_eq_true_eq]; omega), rDiff_2 l hl hb _ k rfl hk h0]
      simp only [Option.bind_some]
      rw [need_eq ⟨by omega, by omega⟩, need_eq ⟨by omega, by omega⟩, need_eq (by simp only [List.length_singleton]; omega), i64w (by omega) (by omega), show (k : Int) + 1 = ((k + 1 : Nat) : Int) by omega, h3]
      by_cases hp : p (ix (ix l 0) (k : Int)) = true
      · rw [if_pos hp, if_pos hp]; rfl
      · rw [if_neg hp, if_neg hp]; rfl
    · unfold mewsref23.Diff.body0
      rw [if_pos (by omega), need_eq ⟨by omega, by omega⟩]
      simp
  · rw [whileO_end (r := []) (by
      unfold mewsref23.Diff.body0
      rw [if_neg (by omega)]; rfl)]
    refine ⟨_, rfl, List.Pairwise.nil, fun x => ?_⟩
    constructor
    · intro h; simp at h
    · intro h; exact absurd h.1 h0

/-! ### In how many lists -/
theorem cnt_all (l : List (List Str)) (x : Str) : cnt l x = l.length ↔ ∀ i, i < l.length → x ∈ ix l (i : Int) := by
  have := List.countP_eq_length (l := List.range l.length) (p := fun j : Nat => decide (x ∈ ix l (j : Int)))
  rw [List.length_range] at this
  rw [show cnt l x = List.countP (fun j : Nat => decide (x ∈ ix l (j : Int))) (List.range l.length) from rfl, this]
  simp

theorem cnt_one (l : List (List Str)) (x : Str) (h0 : 0 < l.length) (hx : x ∈ ix l ((0 : Nat) : Int)) : cnt l x = 1 ↔ ∀ i, 1 ≤ i → i < l.length → ¬ x ∈ ix l (i : Int) := by
  obtain ⟨k, hk⟩ : ∃ k, l.length = k + 1 := ⟨l.length - 1, by omega⟩
  unfold cnt
  rw [hk, List.range_succ_eq_map, List.countP_cons, if_pos (by rw [decide_eq_true_eq]; exact hx), List.countP_map]
  rw [show (List.countP ((fun j : Nat => decide (x ∈ ix l (j : Int))) ∘ Nat.succ) (List.range k) + 1 = 1) ↔ (List.countP ((fun j : Nat => decide (x ∈ ix l (j : Int))) ∘ Nat.succ) (List.range k) = 0) by omega, List.countP_eq_zero]
  constructor
  · intro h i h1 h2
    have := h (i - 1) (by rw [List.mem_range]; omega)
    simp only [Function.comp, decide_eq_true_eq] at this
    rwa [show Nat.succ (i - 1) = i by omega] at this
  · intro h i h1
    rw [List.mem_range] at h1
    simp only [Function.comp, decide_eq_true_eq]
    exact h (i + 1) (by omega) (by omega)

theorem inter_iff (l : List (List Str)) (x : Str) : ((∃ i, i < l.length ∧ x ∈ ix l (i : Int)) ∧ kept l (fun n _ => decide (n = (l.length : Int))) x = true) ↔ 0 < l.length ∧ x ∈ ix l ((0 : Nat) : Int) ∧ ∀ i, 1 ≤ i → i < l.length → (x ∈ ix l (i : Int)) := by
  have e : kept l (fun n _ => decide (n = (l.length : Int))) x = true ↔ cnt l x = l.length := by
    unfold kept; rw [decide_eq_true_eq]; omega
  rw [e, cnt_all]
  constructor
  · rintro ⟨⟨i, hi, _⟩, h⟩; exact ⟨by omega, h 0 (by omega), fun i _ h2 => h i h2⟩
  · rintro ⟨h0, h1, h2⟩
    refine ⟨⟨0, h0, h1⟩, fun i hi => ?_⟩
    by_cases e : i = 0
    · subst e; exact h1
    · exact h2 i (by omega) hi

theorem diff_iff (l : List (List Str)) (x : Str) : ((∃ i, i < l.length ∧ x ∈ ix l (i : Int)) ∧ kept l (fun n f => f && decide (n = 1)) x = true) ↔ 0 < l.length ∧ x ∈ ix l ((0 : Nat) : Int) ∧ ∀ i, 1 ≤ i → i < l.length → ¬ (x ∈ ix l (i : Int)) := by
  have e : kept l (fun n f => f && decide (n = 1)) x = true ↔ x ∈ ix l ((0 : Nat) : Int) ∧ cnt l x = 1 := by
    unfold kept; rw [Bool.and_eq_true, decide_eq_true_eq, decide_eq_true_eq]
    constructor
    · rintro ⟨h1, h2⟩; exact ⟨h1, by omega⟩
    · rintro ⟨h1, h2⟩; exact ⟨h1, by omega⟩
  rw [e]
  constructor
  · rintro ⟨⟨i, hi, _⟩, h1, h2⟩
    exact ⟨by omega, h1, (cnt_one l x (by omega) h1).1 h2⟩
  · rintro ⟨h0, h1, h2⟩
    exact ⟨⟨0, h0, h1⟩, h1, (cnt_one l x h0 h1).2 h2⟩

theorem asc_len {r : List Str} : ∀ {l : List Str}, Asc r → (∀ x ∈ r, x ∈ l) → r.length ≤ l.length := by
  intro l hr h
  exact hr.nodup.length_le_of_subset h

theorem MemberJoins_pure (l : List (List Str)) (hl : l.length < 1000000000000000) (hb : ∀ x ∈ l, x.length < 1000000000000000) : mewslaw23.MemberJoins l = some true := by
  unfold mewslaw23.MemberJoins
  obtain ⟨b, hf, hf2⟩ := far23_eq l hl hb
  rw [hf, alive23]
  cases b with
  | true => rfl
  | false =>
    obtain ⟨h300, h20⟩ := hf2 rfl
    simp only [Option.bind_some, Bool.false_eq_true, if_false]
    obtain ⟨m, h1, hmlen, hm⟩ : ∃ m, mewslaw23.MemberJoins.loop0 l ⟨[], 0⟩ = some m ∧ m.length = l.length ∧ ∀ j, j < l.length → Asc (ix m (j : Int)) ∧ (ix m (j : Int)).length ≤ (ix l (j : Int)).length := by
      unfold mewslaw23.MemberJoins.loop0
      refine whileO_meas (fun t => ∃ i : Nat, t.t11 = (i : Int) ∧ i ≤ l.length ∧ t.m.length = i ∧ ∀ j, j < i → Asc (ix t.m (j : Int)) ∧ (ix t.m (j : Int)).length ≤ (ix l (j : Int)).length) (fun t => l.length - t.t11.toNat) _ (fun t => ?_) _ ⟨0, rfl, by omega, rfl, fun j h => by omega⟩
      rintro ⟨i, e, hi, hlen, hall⟩
      unfold mewslaw23.MemberJoins.body0
      rw [e]
      by_cases hc : i < l.length
      · have hli : (ix l (i : Int)).length ≤ 300 := Nat.le_trans (sumN_get (f := fun j => (ix l (j : Int)).length) hc) h300
        obtain ⟨r, g1, g2, g3, g4⟩ := rRising_eq (ix l (i : Int)) (by omega)
        rw [if_pos (by omega), need_eq ⟨by omega, by omega⟩, g1]
        simp only [Option.bind_some]
        rw [need_eq (by simp only [List.length_singleton]; omega)]
        refine .inl ⟨_, rfl, ⟨i + 1, ?_, by omega, by simp [hlen], ?_⟩, ?_⟩
        · show IntKind.wrap .i64 ((i : Int) + 1) = ((i + 1 : Nat) : Int)
          rw [i64w (by omega) (by omega)]; omega
        · intro j hj
          show Asc (ix (t.m ++ [r]) (j : Int)) ∧ (ix (t.m ++ [r]) (j : Int)).length ≤ _
          by_cases ej : j = i
          · subst ej
            have : ix (t.m ++ [r]) (j : Int) = r := by rw [ix_get (by simp [hlen])]; simp [← hlen]
            rw [this]; exact ⟨g2, g4⟩
          · have : ix (t.m ++ [r]) (j : Int) = ix t.m (j : Int) := by
              rw [ix_get (by simp; omega), ix_get (by omega), List.getElem_append_left (by omega)]
            rw [this]; exact hall j (by omega)
        · show _ - (IntKind.wrap .i64 ((i : Int) + 1)).toNat < _ - (i : Int).toNat
          rw [i64w (by omega) (by omega)]; omega
      · rw [if_neg (by omega)]
        obtain rfl : i = l.length := by omega
        exact .inr ⟨_, rfl, hlen, hall⟩
    rw [h1]
    simp only [Option.bind_some]
    have hasc : ∀ x ∈ m, Asc x := by
      intro x hx
      obtain ⟨j, hj, rfl⟩ := List.mem_iff_getElem.1 hx
      have := (hm j (by omega)).1
      rwa [ix_get hj] at this
    have hlens : lens m ≤ 300 := by
      refine Nat.le_trans ?_ h300
      show sumN _ m.length ≤ _
      rw [hmlen]
      exact sumN_le fun j hj => (hm j hj).2
    have hlens' : sumN (fun j => (ix m (j : Int)).length) m.length ≤ 300 := hlens
    have hb1 : ∀ j, j < m.length → (ix m (j : Int)).length ≤ 1000000 := fun j hj => Nat.le_trans (sumN_get (f := fun j => (ix m (j : Int)).length) hj) (by omega)
    obtain ⟨u, hu1, hu2, hu3⟩ := Union_eq (l := m) (by omega) (by omega) hasc
    obtain ⟨u', hu1', hu2', hu3'⟩ := rUnion_eq m (by omega) (by omega)
    obtain ⟨n, hn1, hn2, hn3⟩ := Inter_eq (l := m) (by omega) (by omega) hasc
    obtain ⟨n', hn1', hn2', hn3'⟩ := rInter_eq m (by omega) hb1 hasc
    obtain ⟨d, hd1, hd2, hd3⟩ := Diff_eq (l := m) (by omega) (by omega) hasc
    obtain ⟨d', hd1', hd2', hd3'⟩ := rDiff_eq m (by omega) hb1 hasc
    have eu : u = u' := asc_ext hu2 hu2' fun x => by rw [hu3, hu3']; simp [kept]
    have en : n = n' := asc_ext hn2 hn2' fun x => by rw [hn3, hn3']; exact inter_iff m x
    have ed : d = d' := asc_ext hd2 hd2' fun x => by rw [hd3, hd3']; exact diff_iff m x
    subst eu en ed
    have b1 : ∀ (r : List Str), Asc r → (∀ x ∈ r, ∃ i, i < m.length ∧ x ∈ ix m (i : Int)) → r.length < 9223372036854775807 := by
      intro r hr hx
      obtain ⟨q, _, q2, q3, q4⟩ : ∃ q : List Str, True ∧ (∀ x, x ∈ q ↔ ∃ i, i < m.length ∧ x ∈ ix m (i : Int)) ∧ q.length ≤ 300 ∧ True := by
        refine ⟨m.flatten, trivial, fun x => ?_, ?_, trivial⟩
        · rw [List.mem_flatten]
          constructor
          · rintro ⟨y, hy, hxy⟩
            obtain ⟨j, hj, rfl⟩ := List.mem_iff_getElem.1 hy
            exact ⟨j, hj, by rwa [ix_get hj]⟩
          · rintro ⟨j, hj, hxy⟩
            rw [ix_get hj] at hxy
            exact ⟨_, List.getElem_mem hj, hxy⟩
        · refine Nat.le_trans (Nat.le_of_eq ?_) hlens
          have : ∀ (k : Nat) (hk : k ≤ m.length), (m.take k).flatten.length = sumN (fun j => (ix m (j : Int)).length) k := by
            intro k
            induction k with
            | zero => intro _; simp [sumN]
            | succ k ih =>
              intro hk
              rw [List.take_add_one, List.getElem?_eq_getElem (by omega), List.flatten_append, List.length_append, ih (by omega)]
              simp only [sumN]
              rw [ix_get (by omega)]
              simp
          have := this m.length (Nat.le_refl _)
          rwa [List.take_length] at this
      have := asc_len (l := q) hr fun x h => (q2 x).2 (hx x h)
      omega
    rw [hu1, hu1', hn1, hn1', hd1, hd1']
    simp only [Option.bind_some]
    rw [Same_self u (b1 u hu2 fun x hx => (hu3' x).1 hx), Same_self n (b1 n hn2 fun x hx => by obtain ⟨h1, h2, _⟩ := (hn3' x).1 hx; exact ⟨0, h1, h2⟩), Same_self d (b1 d hd2 fun x hx => by obtain ⟨h1, h2, _⟩ := (hd3' x).1 hx; exact ⟨0, h1, h2⟩)]
    rfl

/-! ### Two lists -/
theorem two_ex (a b : List Str) (x : Str) : (∃ i, i < [a, b].length ∧ x ∈ ix [a, b] (i : Int)) ↔ x ∈ a ∨ x ∈ b := by
  constructor
  · rintro ⟨i, hi, hx⟩
    match i, hi with
    | 0, _ => exact .inl hx
    | 1, _ => exact .inr hx
  · rintro (h | h)
    · exact ⟨0, by simp, h⟩
    · exact ⟨1, by simp, h⟩
theorem two_all (a b : List Str) (x : Str) (p : Str → List Str → Prop) : (∀ i : Nat, 1 ≤ i → i < [a, b].length → p x (ix [a, b] (i : Int))) ↔ p x b := by
  constructor
  · intro h; exact h 1 (by omega) (by simp)
  · intro h i h1 h2
    have : i = 1 := by simp at h2; omega
    subst this; exact h
theorem two_asc {a b : List Str} (ha : Asc a) (hb : Asc b) : ∀ x ∈ [a, b], Asc x := by
  intro x hx; simp at hx; rcases hx with rfl | rfl <;> assumption
theorem two_lens (a b : List Str) : lens [a, b] = a.length + b.length := by
  simp [lens, sumN, ix]

theorem Union2 {a b : List Str} (ha : Asc a) (hb : Asc b) (hl : a.length + b.length ≤ 1000000) : ∃ r, member.Union [a, b] = some r ∧ Asc r ∧ ∀ x, x ∈ r ↔ x ∈ a ∨ x ∈ b := by
  obtain ⟨r, h1, h2, h3⟩ := Union_eq (l := [a, b]) (by simp) (by have := two_lens a b; unfold lens at this; omega) (two_asc ha hb)
  refine ⟨r, h1, h2, fun x => ?_⟩
  rw [h3, two_ex]; simp [kept]
theorem Inter2 {a b : List Str} (ha : Asc a) (hb : Asc b) (hl : a.length + b.length ≤ 1000000) : ∃ r, member.Inter [a, b] = some r ∧ Asc r ∧ ∀ x, x ∈ r ↔ x ∈ a ∧ x ∈ b := by
  obtain ⟨r, h1, h2, h3⟩ := Inter_eq (l := [a, b]) (by simp) (by have := two_lens a b; unfold lens at this; omega) (two_asc ha hb)
  refine ⟨r, h1, h2, fun x => ?_⟩
  rw [h3, inter_iff, two_all a b x (fun x y => x ∈ y)]
  exact ⟨fun h => h.2, fun h => ⟨by simp, h⟩⟩
theorem Diff2 {a b : List Str} (ha : Asc a) (hb : Asc b) (hl : a.length + b.length ≤ 1000000) : ∃ r, member.Diff [a, b] = some r ∧ Asc r ∧ ∀ x, x ∈ r ↔ x ∈ a ∧ x ∉ b := by
  obtain ⟨r, h1, h2, h3⟩ := Diff_eq (l := [a, b]) (by simp) (by have := two_lens a b; unfold lens at this; omega) (two_asc ha hb)
  refine ⟨r, h1, h2, fun x => ?_⟩
  rw [h3, diff_iff, two_all a b x (fun x y => ¬ x ∈ y)]
  exact ⟨fun h => h.2, fun h => ⟨by simp, h⟩⟩

theorem asc_filter_len {a r : List Str} {p : Str → Bool} (ha : Asc a) (hr : Asc r) (h : ∀ x, x ∈ r ↔ x ∈ a ∧ p x = true) : r.length = (a.filter p).length := by
  have : r = a.filter p := asc_ext hr (List.Pairwise.filter _ ha) fun x => by rw [h, List.mem_filter]
  rw [this]

theorem filter_two (p : Str → Bool) (l : List Str) : l.length = (l.filter p).length + (l.filter fun z => !p z).length := by
  induction l with
  | nil => rfl
  | cons x l ih => by_cases h : p x = true <;> simp [h, ih] <;> omega

theorem MemberParts_pure (a b : List Str) (ha : a.length < 1000000000000000) (hb : b.length < 1000000000000000) : mewslaw23.MemberParts a b = some true := by
  unfold mewslaw23.MemberParts
  obtain ⟨f, hf, hf2⟩ := far23_eq [a, b] (by simp) (by intro x hx; simp at hx; rcases hx with rfl | rfl <;> assumption)
  rw [hf, alive23]
  cases f with
  | true => rfl
  | false =>
    obtain ⟨h300, _⟩ := hf2 rfl
    rw [two_lens] at h300
    simp only [Option.bind_some, Bool.false_eq_true, if_false]
    obtain ⟨x, x1, x2, x3, x4⟩ := rRising_eq a (by omega)
    obtain ⟨y, y1, y2, y3, y4⟩ := rRising_eq b (by omega)
    obtain ⟨d, d1, d2, d3⟩ := Diff2 x2 y2 (by omega)
    obtain ⟨i, i1, i2, i3⟩ := Inter2 x2 y2 (by omega)
    obtain ⟨u, u1, u2, u3⟩ := Union2 x2 y2 (by omega)
    have dl : d.length ≤ x.length := asc_len d2 fun z hz => ((d3 z).1 hz).1
    have il : i.length ≤ x.length := asc_len i2 fun z hz => ((i3 z).1 hz).1
    obtain ⟨v, v1, v2, v3⟩ := Union2 d2 i2 (by omega)
    obtain ⟨n, n1, n2, n3⟩ := Inter2 d2 i2 (by omega)
    obtain ⟨p, p1, p2, p3⟩ := Union2 x2 x2 (by omega)
    obtain ⟨q, q1, q2, q3⟩ := Inter2 x2 x2 (by omega)
    obtain ⟨e, e1, e2, e3⟩ := Diff2 x2 x2 (by omega)
    obtain ⟨w, w1, w2, w3⟩ := Union2 y2 x2 (by omega)
    have ul : u.length ≤ (x ++ y).length := asc_len u2 fun z hz => by rw [List.mem_append]; exact (u3 z).1 hz
    rw [List.length_append] at ul
    have ev : v = x := asc_ext v2 x2 fun z => by
      rw [v3, d3, i3]
      by_cases h : z ∈ y <;> simp [h]
    have en : n = [] := asc_ext n2 List.Pairwise.nil fun z => by
      rw [n3, d3, i3]
      constructor
      · rintro ⟨⟨_, h1⟩, _, h2⟩; exact absurd h2 h1
      · intro h; simp at h
    have ep : p = x := asc_ext p2 x2 fun z => by rw [p3]; simp
    have eq : q = x := asc_ext q2 x2 fun z => by rw [q3]; simp
    have ee : e = [] := asc_ext e2 List.Pairwise.nil fun z => by rw [e3]; simp
    have ew : w = u := asc_ext w2 u2 fun z => by rw [w3, u3]; exact Or.comm
    rw [ev] at v1
    rw [en] at n1
    rw [ep] at p1
    rw [eq] at q1
    rw [ee] at e1
    rw [ew] at w1
    have c1 : d.length + i.length = x.length := by
      have h1 := asc_filter_len (p := fun z => decide (z ∈ y)) x2 i2 (fun z => by rw [i3]; simp)
      have h2 := asc_filter_len (p := fun z => !decide (z ∈ y)) x2 d2 (fun z => by rw [d3]; simp)
      have h3 := filter_two (fun z => decide (z ∈ y)) x
      omega
    have c2 : u.length + i.length = x.length + y.length := by
      obtain ⟨p, hp⟩ : ∃ p : Str → Bool, ∀ z, p z = true ↔ z ∈ x := ⟨fun z => decide (z ∈ x), by simp⟩
      have h1 := asc_filter_len (p := p) y2 i2 (fun z => by rw [i3, hp]; exact And.comm)
      have h3 := filter_two p y
      have h4 : u.Perm (x ++ y.filter fun z => !p z) := by
        rw [List.perm_ext_iff_of_nodup u2.nodup]
        · intro z
          rw [u3, List.mem_append, List.mem_filter]
          by_cases h : z ∈ x
          · simp [h]
          · have : p z = false := by
              cases hpz : p z with
              | false => rfl
              | true => exact absurd ((hp z).1 hpz) h
            simp [h, this]
        · unfold List.Nodup
          rw [List.pairwise_append]
          refine ⟨x2.nodup, (List.Pairwise.filter _ y2.nodup), fun s hs t ht e => ?_⟩
          subst e
          rw [List.mem_filter, (hp s).2 hs] at ht
          simp at ht
      have h5 := h4.length_eq
      rw [List.length_append] at h5
      omega
    have small : ∀ k : List Str, k.length ≤ 600 → k.length < 9223372036854775807 := fun k h => by omega
    rw [x1, y1]
    simp only [Option.bind_some]
    rw [d1, i1, u1]
    simp only [Option.bind_some]
    rw [v1]
    simp only [Option.bind_some]
    rw [Same_self _ (by omega)]
    simp only [Option.bind_some, Bool.not_true, Bool.false_eq_true, if_false]
    rw [i64w (n := (d.length : Int) + _) (by omega) (by omega), if_pos (by omega), i64w (n := (x.length : Int) + _) (by omega) (by omega), i64w (n := _ - _) (by omega) (by omega), if_pos (by omega), n1]
    simp only [Option.bind_some, List.length_nil, Bool.false_eq_true, if_false]
    rw [show (!decide (((0 : Nat) : Int) = 0)) = false from rfl]
    simp only [Bool.false_eq_true, if_false]
    have hloop : mewslaw23.MemberParts.loop0 u x y ⟨0⟩ = some (.inl ()) := by
      unfold mewslaw23.MemberParts.loop0
      refine whileO_knownE ⟨0⟩ (fun i => (⟨(i : Int)⟩ : mewslaw23.MemberParts.S0)) u.length (fun k hk => ?_) ?_
      · unfold mewslaw23.MemberParts.body0
        have hor : (if 0 < (k : Int) then need (InB (IntKind.wrap .i64 ((k : Int) - 1)) u.length) (some (!strLt (ix u (IntKind.wrap .i64 ((k : Int) - 1))) (ix u (k : Int)))) else some false) = some false := by
          by_cases h0 : 0 < k
          · rw [if_pos (by omega), i64w (by omega) (by omega), show (k : Int) - 1 = ((k - 1 : Nat) : Int) by omega, need_eq ⟨by omega, by omega⟩, ix_get (by omega), ix_get hk, u2.get (by omega) hk]
            rfl
          · rw [if_neg (by omega)]
        have hmem := (u3 u[k]).1 (List.getElem_mem hk)
        simp only
        rw [if_pos (by omega), need_eq ⟨by omega, by omega⟩, rHas_eq _ _ (by omega), rHas_eq _ _ (by omega), hor, ix_get hk, i64w (by omega) (by omega)]
        simp only [Option.bind_some]
        by_cases hv : u[k] ∈ x
        · rw [if_neg (by simp [hv])]; rfl
        · have hy := hmem.resolve_left hv
          rw [if_pos (by simp [hv]), if_neg (by simp [hy])]; rfl
      · unfold mewslaw23.MemberParts.body0
        simp
    rw [hloop, p1]
    simp only [Option.bind_some, onSum]
    rw [q1, e1]
    simp only [Option.bind_some]
    rw [Same_self _ (by omega)]
    simp only [Option.bind_some, if_true]
    rw [w1]
    simp only [Option.bind_some, List.length_nil]
    rw [Same_self _ (by omega)]
    rfl

end Go.Pu

namespace Go.Pu.Pure
open Go.Lift Go.Pu
theorem MemberJoins {a0 : List (List (List UInt8))} (h0 : a0.length * 24 ≤ 140737488351232 ∧ ∀ y0, y0 ∈ a0 → (y0.length * 16 ≤ 140737488351232 ∧ ∀ y1, y1 ∈ y0 → y1.length ≤ 140737488351232)) : mewslaw23.MemberJoins a0 = some true :=
  MemberJoins_pure a0 (by omega) fun x hx => by have := (h0.2 x hx).1; omega
theorem MemberParts {a0 a1 : List (List UInt8)} (h0 : a0.length * 16 ≤ 140737488351232 ∧ ∀ y0, y0 ∈ a0 → y0.length ≤ 140737488351232) (h1 : a1.length * 16 ≤ 140737488351232 ∧ ∀ y0, y0 ∈ a1 → y0.length ≤ 140737488351232) : mewslaw23.MemberParts a0 a1 = some true :=
  MemberParts_pure a0 a1 (by omega) (by omega)
end Go.Pu.Pure
