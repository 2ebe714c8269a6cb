import Derived.Test.YtnlnolbgakfofaaMEPuFldT
set_option maxHeartbeats 0
set_option maxRecDepth 100000
namespace Go.Pu
open Go.Lift

theorem pw_of_next {α : Type} {R : α → α → Prop} (tr : ∀ a b c, R a b → R b c → R a c) : ∀ l : List α, (∀ j (h : j + 1 < l.length), R (l[j]'(by omega)) l[j + 1]) → l.Pairwise R
 | [], _ => List.Pairwise.nil
 | [a], _ => by simp
 | a :: b :: t, h => by
  have ih := pw_of_next tr (b :: t) fun j hj => h (j + 1) (by simp only [List.length_cons] at hj ⊢; omega)
  have h0 : R a b := h 0 (by simp)
  refine List.pairwise_cons.2 ⟨fun x hx => ?_, ih⟩
  rcases List.mem_cons.1 hx with rfl | hx
  ·exact h0
  ·exact tr _ _ _ h0 ((List.pairwise_cons.1 ih).1 x hx)

open Classical in
/-- rises: each is ahead of the next one. -/
theorem rises_loop {α σ : Type} [Inhabited α] {R : α → α → Bool} (tr : ∀ a b c, R a b = true → R b c = true → R a c = true) (l : List α) (hl : l.length < 1000000000000000) {body : σ → Option (σ ⊕ (Unit ⊕ Bool))} (st : Nat → σ)
  (h : ∀ i (hi : i + 1 < l.length), body (st i) = some (if R (l[i]'(by omega)) l[i + 1] = true then .inl (st (i + 1)) else .inr (.inr false))) (he : body (st (l.length - 1)) = some (.inr (.inl ()))) :
  whileO body (st 0) = some (if l.Pairwise (fun a b => R a b = true) then .inl () else .inr false) := by
 have h1 := whileO_anyE (body := body) (st 0) st (l.length - 1) (fun i => ∃ hi : i + 1 < l.length, ¬ R (l[i]'(by omega)) l[i + 1] = true) (.inr false) (.inl ()) (fun i hi => ?_) he
 ·rw [h1]
  by_cases hp : l.Pairwise (fun a b => R a b = true)
  ·rw [if_pos hp, if_neg]
   rintro ⟨i, hi, hi2, hn⟩
   exact hn (List.pairwise_iff_getElem.1 hp i (i + 1) (by omega) hi2 (by omega))
  ·rw [if_neg hp, if_pos]
   refine Classical.byContradiction fun hn => hp (pw_of_next (R := fun a b => R a b = true) tr l fun j hj => ?_)
   exact Classical.byContradiction fun h2 => hn ⟨j, by omega, hj, h2⟩
 ·have hi2 : i + 1 < l.length := by omega
  rw [h i hi2]
  by_cases hr : R (l[i]'(by omega)) l[i + 1] = true
  ·rw [if_pos hr, if_neg]
   rintro ⟨_, hn⟩
   exact hn hr
  ·rw [if_neg hr, if_pos ⟨hi2, hr⟩]

theorem wsub (i : Nat) (h : i < 1000000000000000) : IntKind.wrap .i64 (((i + 1 : Nat) : Int) - 1) = (i : Int) := by rw [i64w (by omega) (by omega)]; omega
theorem wadd (i : Nat) (h : i < 1000000000000000) : IntKind.wrap .i64 (((i + 1 : Nat) : Int) + 1) = ((i + 1 + 1 : Nat) : Int) := by rw [i64w (by omega) (by omega)]; omega

open Classical in
theorem rises1 (v : api.Value) (hl : v.List_.length < 1000000000000000) (h0 : 0 < v.List_.length) : charge.rises_charge_May_1 (v.List_.length : Int) v = some (decide (Asc v.List_)) := by
 unfold charge.rises_charge_May_1 charge.rises_charge_May_1.loop0
 have := rises_loop (R := strLt) (fun a b c => strLt_trans) v.List_ hl (body := charge.rises_charge_May_1.body0 (v.List_.length : Int) v) (fun i => ⟨((i + 1 : Nat) : Int)⟩) (fun i hi => ?_) ?_
 ·show (whileO (charge.rises_charge_May_1.body0 (v.List_.length : Int) v) ⟨((0 + 1 : Nat) : Int)⟩).bind _ = _
  rw [this]
  by_cases hp : Asc v.List_
  ·rw [if_pos (show v.List_.Pairwise (fun a b => strLt a b = true) from hp), decide_eq_true hp]; rfl
  ·rw [if_neg (show ¬ v.List_.Pairwise (fun a b => strLt a b = true) from hp), decide_eq_false hp]; rfl
 ·unfold charge.rises_charge_May_1.body0 charge.May_1
  show (if ((i + 1 : Nat) : Int) < (v.List_.length : Int) then _ else _) = _
  rw [if_pos (by omega)]
  simp only [wsub i (by omega), wadd i (by omega)]
  rw [need_eq ⟨by omega, by omega⟩, need_eq ⟨by omega, by omega⟩, ix_get (by omega : i < _), ix_get hi, Option.bind_some]
  cases strLt (v.List_[i]'(by omega)) v.List_[i + 1] <;> rfl
 ·unfold charge.rises_charge_May_1.body0
  exact if_neg (by show ¬ ((v.List_.length - 1 + 1 : Nat) : Int) < (v.List_.length : Int); omega)

open Classical in
theorem rises2 (v : api.Value) (hl : v.Hash.length < 1000000000000000) (h0 : 0 < v.Hash.length) : charge.rises_charge_May_2 (v.Hash.length : Int) v = some (decide (Asc (v.Hash.map (·.Key)))) := by
 unfold charge.rises_charge_May_2 charge.rises_charge_May_2.loop0
 have := rises_loop (R := fun a b : api.Field => strLt a.Key b.Key) (fun a b c => strLt_trans) v.Hash hl (body := charge.rises_charge_May_2.body0 (v.Hash.length : Int) v) (fun i => ⟨((i + 1 : Nat) : Int)⟩) (fun i hi => ?_) ?_
 ·show (whileO (charge.rises_charge_May_2.body0 (v.Hash.length : Int) v) ⟨((0 + 1 : Nat) : Int)⟩).bind _ = _
  rw [this]
  have hiff : Asc (v.Hash.map (·.Key)) ↔ v.Hash.Pairwise (fun a b => strLt a.Key b.Key = true) := List.pairwise_map
  by_cases hp : v.Hash.Pairwise (fun a b => strLt a.Key b.Key = true)
  ·rw [if_pos hp, decide_eq_true (hiff.2 hp)]; rfl
  ·rw [if_neg hp, decide_eq_false (fun h => hp (hiff.1 h))]; rfl
 ·unfold charge.rises_charge_May_2.body0 charge.May_2
  show (if ((i + 1 : Nat) : Int) < (v.Hash.length : Int) then _ else _) = _
  rw [if_pos (by omega)]
  simp only [wsub i (by omega), wadd i (by omega)]
  rw [need_eq ⟨by omega, by omega⟩, need_eq ⟨by omega, by omega⟩, ix_get (by omega : i < _), ix_get hi, Option.bind_some]
  cases strLt (v.Hash[i]'(by omega)).Key v.Hash[i + 1].Key <;> rfl
 ·unfold charge.rises_charge_May_2.body0
  exact if_neg (by show ¬ ((v.Hash.length - 1 + 1 : Nat) : Int) < (v.Hash.length : Int); omega)

/-- A pair ahead of another one. -/
def zl (a b : api.Scored) : Bool := decide (a.Score < b.Score) || (decide (a.Score = b.Score) && strLt a.Member b.Member)

theorem less_eq (a b : api.Scored) : charge.less a b = some (zl a b) := by
 unfold charge.less letO zl
 by_cases h : a.Score < b.Score
 ·simp [h]
 ·by_cases h2 : a.Score = b.Score
  ·simp [h, h2]
  ·simp [h, h2]
theorem rless_eq (a b : api.Scored) : mewsref10.Less a b = some (zl a b) := by
 unfold mewsref10.Less zl
 by_cases h2 : a.Score = b.Score
 ·simp [h2]
 ·simp [h2]
theorem zl_trans (a b c : api.Scored) (h1 : zl a b = true) (h2 : zl b c = true) : zl a c = true := by
 unfold zl at *
 simp only [Bool.or_eq_true, Bool.and_eq_true, decide_eq_true_eq] at *
 rcases h1 with h1 | ⟨h1, h1'⟩
 ·rcases h2 with h2 | ⟨h2, _⟩
  ·exact .inl (by omega)
  ·exact .inl (by omega)
 ·rcases h2 with h2 | ⟨h2, h2'⟩
  ·exact .inl (by omega)
  ·exact .inr ⟨by omega, strLt_trans h1' h2'⟩
theorem zl_irrefl (a : api.Scored) : zl a a = false := by
 unfold zl
 simp [strLt_irrefl]
theorem zl_tri {a b : api.Scored} (h : a.Member ≠ b.Member) : zl a b = true ∨ zl b a = true := by
 unfold zl
 simp only [Bool.or_eq_true, Bool.and_eq_true, decide_eq_true_eq]
 by_cases h1 : a.Score < b.Score
 ·exact .inl (.inl h1)
 ·by_cases h2 : b.Score < a.Score
  ·exact .inr (.inl h2)
  ·have h3 : a.Score = b.Score := by omega
   rcases strLt_tri a.Member b.Member with h4 | h4 | h4
   ·exact absurd h4 h
   ·exact .inl (.inr ⟨h3, h4⟩)
   ·exact .inr (.inr ⟨h3.symm, h4⟩)

def ZAsc (l : List api.Scored) : Prop := l.Pairwise fun a b => zl a b = true

open Classical in
theorem rises3 (v : api.Value) (hl : v.ZSet.length < 1000000000000000) (h0 : 0 < v.ZSet.length) : charge.rises_charge_May_3 (v.ZSet.length : Int) v = some (decide (ZAsc v.ZSet)) := by
 unfold charge.rises_charge_May_3 charge.rises_charge_May_3.loop0
 have := rises_loop (R := zl) zl_trans v.ZSet hl (body := charge.rises_charge_May_3.body0 (v.ZSet.length : Int) v) (fun i => ⟨((i + 1 : Nat) : Int)⟩) (fun i hi => ?_) ?_
 ·show (whileO (charge.rises_charge_May_3.body0 (v.ZSet.length : Int) v) ⟨((0 + 1 : Nat) : Int)⟩).bind _ = _
  rw [this]
  by_cases hp : ZAsc v.ZSet
  ·rw [if_pos (show v.ZSet.Pairwise (fun a b => zl a b = true) from hp), decide_eq_true hp]; rfl
  ·rw [if_neg (show ¬ v.ZSet.Pairwise (fun a b => zl a b = true) from hp), decide_eq_false hp]; rfl
 ·unfold charge.rises_charge_May_3.body0 charge.May_3
  show (if ((i + 1 : Nat) : Int) < (v.ZSet.length : Int) then _ else _) = _
  rw [if_pos (by omega)]
  simp only [wsub i (by omega), wadd i (by omega)]
  rw [need_eq ⟨by omega, by omega⟩, need_eq ⟨by omega, by omega⟩, ix_get (by omega : i < _), ix_get hi, less_eq, Option.bind_some, Option.bind_some]
  cases zl (v.ZSet[i]'(by omega)) v.ZSet[i + 1] <;> rfl
 ·unfold charge.rises_charge_May_3.body0
  exact if_neg (by show ¬ ((v.ZSet.length - 1 + 1 : Nat) : Int) < (v.ZSet.length : Int); omega)

/-! ### once -/
theorem once_loop (l : List api.Scored) (hl : l.length ≤ 3000) : charge.once.loop0 l ⟨0, []⟩ = some (l.map (·.Member)) := by
 unfold charge.once.loop0
 refine whileO_knownE ⟨0, []⟩ (fun i => (⟨(i : Int), (l.take i).map (·.Member)⟩ : charge.once.S0)) l.length (fun i hi => ?_) ?_
 ·unfold charge.once.body0
  show (if (i : Int) < (l.length : Int) then _ else _) = _
  rw [if_pos (by omega)]
  show need (InB (i : Int) l.length) (need ((((l.take i).map (·.Member)).length + 1) * 16 ≤ 140737488355328) _) = _
  rw [need_eq ⟨by omega, by omega⟩, need_eq (by rw [List.length_map, List.length_take]; omega)]
  show some (Sum.inl (⟨IntKind.wrap .i64 ((i : Int) + 1), (l.take i).map (·.Member) ++ [(ix l (i : Int)).Member]⟩ : charge.once.S0)) = _
  rw [ix_get hi, i64w (by omega) (by omega), show (i : Int) + 1 = ((i + 1 : Nat) : Int) by omega, take_sn hi, List.map_append]
  rfl
 ·unfold charge.once.body0
  show (if (l.length : Int) < (l.length : Int) then _ else _) = _
  rw [if_neg (by omega), List.take_length]

theorem compact_iff (s : List Str) (hs : s.Pairwise fun a b => (!strLt b a) = true) : (Go.Lib.compact s).length = s.length ↔ s.Nodup := by
 have hk : ∀ j (hj : j + 1 < s.length), Go.Lib.keeps s.toArray (j + 1) = decide (s[j + 1] ≠ s[j]) := fun j hj => by
  unfold Go.Lib.keeps
  have e1 : s.toArray[j + 1]! = s[j + 1] := by rw [getElem!_pos _ (j + 1) (by simpa using hj)]; simp
  have e2 : s.toArray[j + 1 - 1]! = s[j] := by
   rw [Nat.add_sub_cancel, getElem!_pos _ j (by simp; omega)]; simp
  rw [e1, e2]
  simp
 constructor
 ·intro h
  unfold Go.Lib.compact Go.Lib.compactUpTo at h
  rw [List.length_map] at h
  have h2 : ((List.range s.length).filter (Go.Lib.keeps s.toArray)).length = (List.range s.length).length := by rw [h, List.length_range]
  rw [List.length_filter_eq_length_iff] at h2
  have hasc : Asc s := by
   refine pw_of_next (R := fun a b => strLt a b = true) (fun a b c => strLt_trans) s fun j hj => ?_
   have h3 := h2 (j + 1) (List.mem_range.2 hj)
   rw [hk j hj, decide_eq_true_eq] at h3
   have h4 := List.pairwise_iff_getElem.1 hs j (j + 1) (by omega) hj (by omega)
   rcases strLt_tri s[j] s[j + 1] with h5 | h5 | h5
   ·exact absurd h5.symm h3
   ·exact h5
   ·rw [h5] at h4; cases h4
  exact hasc.nodup
 ·intro h
  rw [Go.Lib.compact_all s fun j hj => ?_]
  cases j with
  | zero => exact Go.Lib.keeps_lt_one _ _ (by omega)
  | succ j =>
   rw [hk j hj]
   refine decide_eq_true fun e => ?_
   have := List.pairwise_iff_getElem.1 h j (j + 1) (by omega) hj (by omega)
   exact this e.symm

theorem sort_pw (x : List Str) : (x.mergeSort fun a b => decide (a ≤ b)).Pairwise fun a b => (!strLt b a) = true := by
 have hf : (fun a b : Str => decide (a ≤ b)) = fun a b => !strLt b a := by funext a b; exact le_strLt a b
 rw [hf]
 exact List.pairwise_mergeSort (le := fun a b : Str => !strLt b a) (fun a b c h1 h2 => by
  simp only [Bool.not_eq_true'] at *
  rcases strLt_tri a b with h | h | h
  ·subst h; exact h2
  ·rcases strLt_tri b c with h' | h' | h'
   ·subst h'; exact strLt_asymm h
   ·exact strLt_asymm (strLt_trans h h')
   ·rw [h2] at h'; cases h'
  ·rw [h1] at h; cases h) (fun a b => by
  simp only [Bool.or_eq_true, Bool.not_eq_true']
  rcases strLt_tri a b with h | h | h
  ·subst h; exact .inl (strLt_irrefl _)
  ·exact .inl (strLt_asymm h)
  ·exact .inr (strLt_asymm h)) x

theorem once_eq (l : List api.Scored) (hl : l.length ≤ 3000) : charge.once l = some (decide ((l.map (·.Member)).Nodup)) := by
 unfold charge.once
 rw [once_loop l hl, Option.bind_some]
 unfold slices.Sort_string
 have hlm : (l.map (·.Member)).length = l.length := List.length_map _
 rw [need_eq (by omega), Option.bind_some]
 unfold slices.Compact_string
 have hp := List.mergeSort_perm (l.map (·.Member)) fun a b => decide (a ≤ b)
 have hlen := hp.length_eq
 rw [need_eq (by omega), Option.bind_some]
 have hc := compact_iff _ (sort_pw (l.map (·.Member)))
 rw [hp.nodup_iff, hlen, hlm] at hc
 congr 1
 by_cases hn : (l.map (·.Member)).Nodup
 ·rw [decide_eq_true hn, decide_eq_true]
  exact congrArg (fun n : Nat => (n : Int)) (hc.2 hn)
 ·rw [decide_eq_false hn, decide_eq_false]
  intro h
  exact hn (hc.1 (Int.ofNat_inj.1 h))

end Go.Pu
