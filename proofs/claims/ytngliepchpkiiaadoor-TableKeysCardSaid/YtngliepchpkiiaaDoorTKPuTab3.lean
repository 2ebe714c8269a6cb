import Derived.Test.YtngliepchpkiiaaDoorTKPuTab2
import Derived.Test.YtngliepchpkiiaaDoorTKC
set_option maxHeartbeats 0
set_option maxRecDepth 100000
namespace Go.Pu
open Go.Lift

/-- What stands in a row. -/
def pickW (step last : Nat) : Nat → List Str → List Str
 | _, [] => []
 | i, x :: t => if i ≤ last ∧ (i - 1) % step = 0 then x :: pickW step last (i + 1) t else pickW step last (i + 1) t

theorem pickW_end {step last : Nat} : ∀ (l : List Str) (i : Nat), last < i → pickW step last i l = []
 | [], _, _ => rfl
 | x :: t, i, h => by rw [pickW, if_neg (by omega), pickW_end t (i + 1) (by omega)]
theorem pickW_skip {step last : Nat} (l : List Str) (i : Nat) (h : ¬ (i - 1) % step = 0) : pickW step last i l = pickW step last (i + 1) (l.drop 1) := by
 cases l with
 | nil => rfl
 | cons x t => rw [pickW, if_neg (fun q => h q.2)]; rfl
theorem pickW_sub {step last : Nat} : ∀ (l : List Str) (i : Nat), ∀ k ∈ pickW step last i l, k ∈ l
 | [], _, k, h => h
 | x :: t, i, k, h => by
  rw [pickW] at h
  split at h
  ·rcases List.mem_cons.1 h with rfl | h
   ·exact List.mem_cons_self
   ·exact List.mem_cons_of_mem _ (pickW_sub t (i + 1) k h)
  ·exact List.mem_cons_of_mem _ (pickW_sub t (i + 1) k h)
theorem pickW_len {step last : Nat} : ∀ (l : List Str) (i : Nat), (pickW step last i l).length ≤ l.length
 | [], _ => Nat.le_refl _
 | x :: t, i => by
  rw [pickW]
  have := pickW_len (step := step) (last := last) t (i + 1)
  split <;> simp only [List.length_cons] <;> omega

theorem places_pick (args : List Str) (hl : args.length ≤ 100) (step last : Nat) (hs : step = 1 ∨ step = 2) (hla : last < args.length) : ∀ (k i : Nat) (c : List Str), 1 ≤ i → (i - 1) % step = 0 → args.length < i + k → i ≤ args.length + 1 → c.length ≤ i →
  ∃ xs, placesL (last : Int) (step : Int) (k + 1) (i : Int) = some xs ∧ eachO (table.Keys.body1 args) xs ⟨c⟩ = some ⟨c ++ pickW step last i (args.drop i)⟩
 | k, i, c, h1, h2, h3, h4, h5 => by
  by_cases hi : i ≤ last
  ·have hil : i < args.length := by omega
   obtain ⟨k', rfl⟩ : ∃ k', k = k' + 1 := ⟨k - 1, by omega⟩
   have hm : (i + step - 1) % step = 0 := by rcases hs with rfl | rfl <;> omega
   obtain ⟨xs, hx, he⟩ := places_pick args hl step last hs hla k' (i + step) (c ++ [args[i]]) (by omega) hm (by omega) (by rcases hs with rfl | rfl <;> omega) (by simp; omega)
   refine ⟨(i : Int) :: xs, ?_, ?_⟩
   ·rw [placesL, if_pos (by omega), i64w (by rcases hs with rfl | rfl <;> omega) (by rcases hs with rfl | rfl <;> omega), show (i : Int) + (step : Int) = ((i + step : Nat) : Int) by omega, hx]
    rfl
   ·have hb : table.Keys.body1 args ⟨c⟩ (i : Int) = some ⟨c ++ [args[i]]⟩ := by
     unfold table.Keys.body1
     rw [need_eq ⟨by omega, by omega⟩, ix_get hil, need_eq (by simp only [List.length_singleton]; omega)]
    rw [eachO, hb, Option.bind_some, he, List.drop_eq_getElem_cons hil, pickW, if_pos ⟨hi, h2⟩, List.append_assoc]
    congr 4
    rcases hs with rfl | rfl
    ·rfl
    ·rw [pickW_skip _ (i + 1) (by omega), List.drop_drop]; rfl
  ·refine ⟨[], ?_, ?_⟩
   ·rw [placesL, if_neg (by omega)]
   ·rw [eachO, pickW_end _ _ (by omega), List.append_nil]

theorem refKeys_pick (args : List Str) (hl : args.length ≤ 100) (r : api.Command × Bool) (step last : Nat) (hs : step = 1 ∨ step = 2) (hf : r.1.First = 1) (hst : r.1.Step = (step : Int)) : ∀ (m i : Nat) (c : List Str), i + m = args.length → 1 ≤ i → c.length ≤ i →
  mewsref28.Keys.loop0 args r (last : Int) ⟨c, (i : Int)⟩ = some (c ++ pickW step last i (args.drop i))
 | 0, i, c, e, h1, h2 => by
  unfold mewsref28.Keys.loop0
  rw [List.drop_eq_nil_of_le (by omega), pickW, List.append_nil]
  apply whileO_end
  unfold mewsref28.Keys.body0
  rw [if_neg (by simp only; omega)]
 | m + 1, i, c, e, h1, h2 => by
  have hil : i < args.length := by omega
  have hb : mewsref28.Keys.body0 args r (last : Int) ⟨c, (i : Int)⟩ = some (.inl ⟨if i ≤ last ∧ (i - 1) % step = 0 then c ++ [args[i]] else c, ((i + 1 : Nat) : Int)⟩) := by
   unfold mewsref28.Keys.body0
   simp only [hf, hst]
   have hw : IntKind.wrap .i64 ((i : Int) - 1) = ((i - 1 : Nat) : Int) := by rw [i64w (by omega) (by omega)]; omega
   rw [if_pos (by omega), if_pos (by omega), hw, i64w (n := (i : Int) + 1) (by omega) (by omega)]
   have hmod : (((i - 1 : Nat) : Int).tmod (step : Int) = 0) ↔ (i - 1) % step = 0 := by
    rw [Int.tmod_eq_emod_of_nonneg (by omega)]; omega
   by_cases ha : i ≤ last
   ·rw [if_pos (by omega), need_eq (by omega), Option.bind_some]
    by_cases hm : (i - 1) % step = 0
    ·rw [if_pos (decide_eq_true (hmod.2 hm)), need_eq ⟨by omega, by omega⟩, ix_get hil, need_eq (by simp only [List.length_singleton]; omega), if_pos ⟨ha, hm⟩]
     rfl
    ·rw [if_neg (by simp only [decide_eq_true_eq]; exact fun q => hm (hmod.1 q)), if_neg (fun q => hm q.2)]
     rfl
   ·rw [if_neg (by omega), Option.bind_some, if_neg (by decide), if_neg (fun q => ha q.1)]
    rfl
  have hih := refKeys_pick args hl r step last hs hf hst m (i + 1) (if i ≤ last ∧ (i - 1) % step = 0 then c ++ [args[i]] else c) (by omega) (by omega) (by split <;> (try simp only [List.length_append, List.length_singleton]) <;> omega)
  unfold mewsref28.Keys.loop0 at hih ⊢
  rw [whileO_next hb hih, List.drop_eq_getElem_cons hil, pickW]
  by_cases hp : i ≤ last ∧ (i - 1) % step = 0
  ·rw [if_pos hp, if_pos hp, List.append_assoc]; rfl
  ·rw [if_neg hp, if_neg hp]

theorem refKeys_count (args : List Str) (hl : args.length ≤ 100) (s : List Str × Int) (r : Int × Bool) (at_ v : Nat) (hs : s.2 = (at_ : Int)) (hr : r.1 = (v : Int)) (hc : s.1.length ≤ 10) (h : at_ + v < args.length) :
  mewsref28.Keys.loop2 s r args ⟨s.1, ((at_ + 1 : Nat) : Int)⟩ = some (s.1 ++ (args.take (at_ + 1 + v)).drop (at_ + 1)) := by
 unfold mewsref28.Keys.loop2
 refine whileO_knownE _ (fun j => ⟨s.1 ++ (args.take (at_ + 1 + j)).drop (at_ + 1), ((at_ + 1 + j : Nat) : Int)⟩) v (fun j hj => ?_) ?_ ?_
 ·unfold mewsref28.Keys.body2
  simp only
  have hil : at_ + 1 + j < args.length := by omega
  rw [hs, hr, i64w (n := (at_ : Int) + v) (by omega) (by omega), if_pos (by omega), need_eq ⟨by omega, by omega⟩, ix_get hil, need_eq (by simp only [List.length_singleton, List.length_append, List.length_drop, List.length_take]; omega), i64w (by omega) (by omega)]
  have e : List.take (at_ + 1 + (j + 1)) args = List.take (at_ + 1 + j) args ++ [args[at_ + 1 + j]] := by
   rw [← Nat.add_assoc, List.take_add_one, List.getElem?_eq_getElem hil]; rfl
  rw [e, List.drop_append, List.length_take, show at_ + 1 - min (at_ + 1 + j) args.length = 0 by omega, List.drop_zero, List.append_assoc]
  rfl
 ·unfold mewsref28.Keys.body2
  simp only
  rw [hs, hr, i64w (n := (at_ : Int) + v) (by omega) (by omega), if_neg (by omega)]
 ·simp [List.drop_take]

/-- What is so of each command. -/
def cmdOk (c : api.Command) : Bool :=
 decide (-100 ≤ c.Arity) && decide (c.Arity ≤ 100) &&
 (decide (c.Keys = 0) ||
 (decide (c.Keys = 1) && decide (c.First = 1) && (decide (c.Step = 1) || decide (c.Step = 2)) &&
  ((decide (c.Last = 1) && (decide (2 ≤ c.Arity) || decide (c.Arity ≤ -2))) || (decide (c.Last = 2) && (decide (3 ≤ c.Arity) || decide (c.Arity ≤ -3))) || (decide (c.Last = -1) && decide (c.Arity ≤ -2)) || (decide (c.Last = -2) && decide (c.Arity ≤ -3)))) ||
 (decide (c.Keys = 2) && decide (c.Arity ≤ -4)) || (decide (c.Keys = 3) && decide (c.Arity ≤ -3)))
theorem cmds_ok : ∀ c ∈ cmdsL, cmdOk c = true := by decide +kernel

theorem ix_1 {args : List Str} (h : 1 < args.length) : ix args 1 = args[1] := ix_get (i := 1) h
theorem Fits_need {c : api.Command} {n : Nat} (hn : n ≤ 100) (hA : -100 ≤ c.Arity ∧ c.Arity ≤ 100) (h : mewsref28.Fits c (n : Int) = some true) : (0 ≤ c.Arity ∧ (n : Int) = c.Arity) ∨ (c.Arity < 0 ∧ 0 ≤ c.Arity + n) := by
 unfold mewsref28.Fits letO at h
 by_cases ha : 0 ≤ c.Arity
 ·rw [if_pos ha] at h
  exact .inl ⟨ha, of_decide_eq_true (Option.some.inj h)⟩
 ·rw [if_neg ha, if_pos (show (0 : Int) ≤ (n : Int) by omega)] at h
  have := of_decide_eq_true (Option.some.inj h)
  rw [i64w (by omega) (by omega)] at this
  exact .inr ⟨by omega, this⟩

noncomputable def tRest (args : List Str) (r : api.Command × Bool) : Option (List Str × Bool) :=
   (
    if r.1.Keys = 1 then
     (table.places r.1 (args.length : Int)).bind fun r195 =>
     (table.places_1 r195.1.First r195.1.Last r195.1.Step r195.2).bind fun r217 =>
     (table.Keys.each1 args r217 ⟨([] : List (List UInt8))⟩).bind fun s218 =>
     some (.inl s218.c)
    else
     letO (
      if r.1.Keys = 2 then
       decide (r.1.Keys = 2)
      else
       decide (r.1.Keys = 3)) fun s223 =>
     if s223 = true then
      (
       if r.1.Keys = 2 then
        need (InB 1 args.length) <|
        need ((([] : List (List UInt8)).length + [ix args 1].length) * 16 ≤ 140737488355328) <|
        some (2, ([] : List (List UInt8)) ++ [ix args 1])
       else
        some (1, ([] : List (List UInt8)))).bind fun s231 =>
      (table.counted args s231.1).bind fun r240 =>
      if (!r240.2) = true then
       some (.inr (([] : List (List UInt8)), false))
      else
       need (InR (IntKind.wrap .i64 (s231.1 + 1)) (IntKind.wrap .i64 ((IntKind.wrap .i64 (s231.1 + 1)) + r240.1)) args.length) <|
       need ((s231.2.length + (sub args (IntKind.wrap .i64 (s231.1 + 1)) (IntKind.wrap .i64 ((IntKind.wrap .i64 (s231.1 + 1)) + r240.1))).length) * 16 ≤ 140737488355328) <|
       some (.inl (s231.2 ++ (sub args (IntKind.wrap .i64 (s231.1 + 1)) (IntKind.wrap .i64 ((IntKind.wrap .i64 (s231.1 + 1)) + r240.1)))))
     else
      some (.inl ([] : List (List UInt8)))).bind fun s249 => onSum s249 (fun s191 =>
    some (s191, true)) fun s249x => some s249x
noncomputable def rRest (args : List Str) (r : api.Command × Bool) : Option (List Str × Bool) :=
   (
    if r.1.Keys = 1 then
     letO (
      if r.1.Last < 0 then
       IntKind.wrap .i64 (r.1.Last + (args.length : Int))
      else
       r.1.Last) fun s431 =>
     mewsref28.Keys.loop0 args r s431 ⟨([] : List (List UInt8)), 1⟩
    else
     some ([] : List (List UInt8))).bind fun s426 =>
   if r.1.Keys < 2 then
    some (s426, true)
   else
    (
     if r.1.Keys = 2 then
      need (InB 1 args.length) <|
      need ((s426.length + [ix args 1].length) * 16 ≤ 140737488355328) <|
      some (s426 ++ [ix args 1], 2)
     else
      some (s426, 1)).bind fun s544 =>
    need (InB s544.2 args.length) <|
    (mewsref01.Parse (ix args s544.2)).bind fun r553 =>
    letO (
     if (!r553.2) = true then
      true
     else
      if r553.1 < 1 then
       true
      else
       if (args.length : Int) < r553.1 then
        true
       else
        decide ((args.length : Int) ≤ (IntKind.wrap .i64 (s544.2 + r553.1)))) fun s557 =>
    if s557 = true then
     some (([] : List (List UInt8)), false)
    else
     (mewsref28.Keys.loop2 s544 r553 args ⟨s544.1, IntKind.wrap .i64 (s544.2 + 1)⟩).bind fun s584 =>
     some (s584, true)

theorem Keys_head (args : List Str) (hl : args.length ≤ 100) (hs : ∀ s ∈ args, s.length ≤ 300) :
  (table.Keys args = some ([], false) ∧ mewsref28.Keys args = some ([], false)) ∨
  (∃ c ∈ cmdsL, mewsref28.Fits c (args.length : Int) = some true ∧ table.Keys args = tRest args (c, true) ∧ mewsref28.Keys args = rRest args (c, true)) := by
 unfold table.Keys mewsref28.Keys
 by_cases h0 : (args.length : Int) = 0
 ·simp only [h0, if_true]
  left; constructor <;> trivial
 simp only [h0, if_false]
 have h0l := hs args[0] (List.getElem_mem (by omega))
 have i0 : ix args 0 = args[0]'(by omega) := ix_get (i := 0) (by omega)
 have hb0 : InB 0 args.length := ⟨by omega, by omega⟩
 have hF := Find_eq args[0] (by omega)
 have hR := rFind_eq args[0] (by omega)
 simp only [need_eq hb0, i0, hF, hR, Option.bind_some]
 rcases findC_mem (args[0].map upC) with hf | ⟨c, hc, hf⟩
 ·simp only [hf]
  exact .inl ⟨rfl, rfl⟩
 have hok := cmds_ok c hc
 unfold cmdOk at hok
 simp only [Bool.and_eq_true, decide_eq_true_eq] at hok
 obtain ⟨⟨hA1, hA2⟩, _⟩ := hok
 have hfit := Fits_eq c (args.length : Int) ⟨by omega, by omega⟩ ⟨by omega, by omega⟩
 obtain ⟨b, hb⟩ := Fits_some c (args.length : Int)
 simp only [hf, hfit, hb, Bool.not_true, Bool.false_eq_true, if_false, Option.bind_some]
 cases b with
 | false => exact .inl ⟨rfl, rfl⟩
 | true => exact .inr ⟨c, hc, hb, rfl, rfl⟩

/-- What both tell of keys that are counted. -/
theorem counted_both (args : List Str) (hl : args.length ≤ 100) (hs : ∀ s ∈ args, s.length ≤ 300) (c : List Str) (hc : c.length ≤ 10) (at_ : Nat) (ha : at_ < args.length) :
  ∃ v ok, I64 v ∧ mewsref01.Parse (ix args (at_ : Int)) = some (v, ok) ∧
   table.counted args (at_ : Int) = some (v, decide (ok = true ∧ 1 ≤ v ∧ v + at_ < args.length)) := by
 have hal := hs args[at_] (List.getElem_mem ha)
 obtain ⟨b, hb, _, hcan⟩ := rParseI args[at_] (by omega)
 refine ⟨(if b then (sval args[at_], true) else (0, false)).1, (if b then (sval args[at_], true) else (0, false)).2, ?_, ?_, ?_⟩
 ·cases b with
  | true => exact (hcan rfl).1
  | false => exact ⟨by simp, by simp⟩
 ·rw [ix_get ha, hb]
 ·have hI : I64 (if b then (sval args[at_], true) else (0, false)).1 := by
   cases b with
   | true => exact (hcan rfl).1
   | false => exact ⟨by simp, by simp⟩
  unfold table.counted
  rw [need_eq ⟨by omega, by omega⟩, ix_get ha, pParse_eq _ (by omega), hb, Option.bind_some, i64w (n := (args.length : Int) - at_) (by omega) (by omega), i64w (by omega) (by omega)]
  unfold letO
  obtain ⟨h1, h2⟩ := hI
  generalize (if b then (sval args[at_], true) else (0, false)) = q at h1 h2
  obtain ⟨v, ok⟩ := q
  simp only at h1 h2 ⊢
  cases ok with
  | false => simp
  | true =>
   simp only [if_true, true_and]
   by_cases hv : 1 ≤ v
   ·rw [if_pos hv]
    congr 2
    apply decide_eq_decide.2; omega
   ·rw [if_neg hv]
    congr 2
    symm; rw [decide_eq_false_iff_not]; omega

theorem counted_end (args : List Str) (hl : args.length ≤ 100) (c : List Str) (hc : c.length ≤ 10) (hm : ∀ k ∈ c, k ∈ args) (a : Nat) (ha : a < args.length) (v : Int) (ok : Bool) (hI : I64 v) :
  ∃ l b, (((some (v, decide (ok = true ∧ 1 ≤ v ∧ v + (a : Int) < (args.length : Int)))).bind fun (r240 : Int × Bool) =>
    if (!r240.2) = true then
     some (.inr (([] : List Str), false))
    else
     need (InR (IntKind.wrap .i64 ((a : Int) + 1)) (IntKind.wrap .i64 ((IntKind.wrap .i64 ((a : Int) + 1)) + r240.1)) args.length) <|
     need ((c.length + (sub args (IntKind.wrap .i64 ((a : Int) + 1)) (IntKind.wrap .i64 ((IntKind.wrap .i64 ((a : Int) + 1)) + r240.1))).length) * 16 ≤ 140737488355328) <|
     some (.inl (c ++ (sub args (IntKind.wrap .i64 ((a : Int) + 1)) (IntKind.wrap .i64 ((IntKind.wrap .i64 ((a : Int) + 1)) + r240.1)))))).bind fun (s249 : List Str ⊕ (List Str × Bool)) => onSum s249 (fun s191 =>
    some (s191, true)) fun s249x => some s249x) = some (l, b) ∧
   ((some (v, ok)).bind fun (r553 : Int × Bool) =>
    if (if (!r553.2) = true then true else if r553.1 < 1 then true else if (args.length : Int) < r553.1 then true else decide ((args.length : Int) ≤ IntKind.wrap .i64 ((a : Int) + r553.1))) = true then
     some (([] : List Str), false)
    else
     (mewsref28.Keys.loop2 (c, (a : Int)) r553 args ⟨c, IntKind.wrap .i64 ((a : Int) + 1)⟩).bind fun s584 => some (s584, true)) = some (l, b) ∧
   (∀ k ∈ l, k ∈ args) ∧ l.length ≤ 200 := by
 obtain ⟨i1, i2⟩ := hI
 by_cases h : ok = true ∧ 1 ≤ v ∧ v + (a : Int) < (args.length : Int)
 ·rw [decide_eq_true h]
  obtain ⟨rfl, h1, h2⟩ := h
  obtain ⟨n, rfl⟩ : ∃ n : Nat, v = (n : Int) := ⟨v.toNat, by omega⟩
  have hw : IntKind.wrap .i64 ((a : Int) + 1) = ((a + 1 : Nat) : Int) := by rw [i64w (by omega) (by omega)]; omega
  have hw2 : IntKind.wrap .i64 (((a + 1 : Nat) : Int) + (n : Int)) = ((a + 1 + n : Nat) : Int) := by rw [i64w (by omega) (by omega)]; omega
  have hlen : ((args.take (a + 1 + n)).drop (a + 1)).length ≤ 100 := by rw [List.length_drop, List.length_take]; omega
  refine ⟨c ++ (args.take (a + 1 + n)).drop (a + 1), true, ?_, ?_, ?_, by rw [List.length_append]; omega⟩
  ·rw [Option.bind_some, hw]
   simp only [hw2, Bool.not_true, Bool.false_eq_true, if_false, sub_nat]
   rw [need_eq ⟨by omega, by omega, by omega⟩, need_eq (by omega)]
   rfl
  ·have hk := refKeys_count args hl (c, (a : Int)) ((n : Int), true) a n rfl rfl hc (by omega)
   rw [Option.bind_some, hw]
   simp only [Bool.not_true, Bool.false_eq_true, if_false]
   rw [if_neg, show mewsref28.Keys.loop2 (c, (a : Int)) ((n : Int), true) args ⟨c, ((a + 1 : Nat) : Int)⟩ = _ from hk]
   ·rfl
   ·rw [if_neg (by omega), if_neg (by omega), i64w (by omega) (by omega)]
    simp only [decide_eq_true_eq]; omega
  ·intro k hk
   rcases List.mem_append.1 hk with hk | hk
   ·exact hm k hk
   ·exact List.mem_of_mem_take (List.mem_of_mem_drop hk)
 ·rw [decide_eq_false h]
  refine ⟨[], false, rfl, ?_, by simp, by simp⟩
  rw [Option.bind_some, if_pos]
  cases ok with
  | false => rfl
  | true =>
   simp only [true_and, not_and] at h
   simp only [Bool.not_true, Bool.false_eq_true, if_false]
   by_cases h1 : v < 1
   ·rw [if_pos h1]
   ·rw [if_neg h1]
    by_cases h2 : (args.length : Int) < v
    ·rw [if_pos h2]
    ·rw [if_neg h2, i64w (by omega) (by omega)]
     have := h (by omega)
     apply decide_eq_true; omega

/-- What both tell of the keys. -/
theorem Keys_both (args : List Str) (hl : args.length ≤ 100) (hs : ∀ s ∈ args, s.length ≤ 300) :
  ∃ l b, table.Keys args = some (l, b) ∧ mewsref28.Keys args = some (l, b) ∧ (∀ k ∈ l, k ∈ args) ∧ l.length ≤ 200 := by
 rcases Keys_head args hl hs with ⟨h1, h2⟩ | ⟨c, hc, hb, h1, h2⟩
 ·exact ⟨[], false, h1, h2, by simp, by simp⟩
 have hok := cmds_ok c hc
 unfold cmdOk at hok
 simp only [Bool.and_eq_true, Bool.or_eq_true, decide_eq_true_eq] at hok
 obtain ⟨⟨hA1, hA2⟩, hok⟩ := hok
 have hn := Fits_need hl ⟨hA1, hA2⟩ hb
 rw [h1, h2]
 rcases hok with ((hk | hk) | hk) | hk
 ·-- no keys
  refine ⟨[], true, ?_, ?_, by simp, by simp⟩
  ·unfold tRest; simp only [hk, letO]; rfl
  ·unfold rRest; simp only [hk]; rfl
 ·-- a row of keys
  obtain ⟨⟨⟨hk1, hF⟩, hst⟩, hla⟩ := hk
  obtain ⟨step, hstep, hs12⟩ : ∃ step : Nat, c.Step = (step : Int) ∧ (step = 1 ∨ step = 2) := by
   rcases hst with h | h
   ·exact ⟨1, h, .inl rfl⟩
   ·exact ⟨2, h, .inr rfl⟩
  obtain ⟨last, hlast, hlt⟩ : ∃ last : Nat, (if c.Last < 0 then IntKind.wrap .i64 (c.Last + (args.length : Int)) else c.Last) = (last : Int) ∧ last < args.length := by
   rcases hla with ((⟨h, h'⟩ | ⟨h, h'⟩) | ⟨h, h'⟩) | ⟨h, h'⟩
   ·exact ⟨1, by rw [h]; rfl, by omega⟩
   ·exact ⟨2, by rw [h]; rfl, by omega⟩
   ·refine ⟨args.length - 1, ?_, by omega⟩
    rw [h, if_pos (by decide), i64w (by omega) (by omega)]; omega
   ·refine ⟨args.length - 2, ?_, by omega⟩
    rw [h, if_pos (by decide), i64w (by omega) (by omega)]; omega
  have hpl := pickW_len (step := step) (last := last) (args.drop 1) 1
  rw [List.length_drop] at hpl
  refine ⟨pickW step last 1 (args.drop 1), true, ?_, ?_, fun k hk => List.mem_of_mem_drop (pickW_sub _ _ k hk), by omega⟩
  ·unfold tRest table.places table.places_1 table.Keys.each1
   simp only [hk1, if_true, Option.bind_some, hF, hstep]
   obtain ⟨xs, hx, he⟩ := places_pick args hl step last hs12 hlt args.length 1 [] (by omega) (by simp) (by omega) (by omega) (by simp)
   rw [hlast, fixO_eq (F := fun k => placesL (last : Int) (step : Int) k 1) (fun k r hr => placesL_mono hr) (show placesL (last : Int) (step : Int) (args.length + 1) 1 = some xs from hx), Option.bind_some, he]
   rfl
  ·unfold rRest
   have hr := refKeys_pick args hl (c, true) step last hs12 hF hstep (args.length - 1) 1 [] (by omega) (by omega) (by simp)
   simp only [hk1, if_true, letO]
   rw [hlast, show mewsref28.Keys.loop0 args (c, true) (last : Int) ⟨[], 1⟩ = _ from hr, Option.bind_some]
   rfl
 ·-- counted, behind a key
  obtain ⟨hk2, hA⟩ := hk
  have hn4 : 4 ≤ args.length := by omega
  obtain ⟨v, ok, hI, hp, ht⟩ := counted_both args hl hs [] (by simp) 2 (by omega)
  have hb1 : InB 1 args.length := ⟨by omega, by omega⟩
  have hb2 : InB 2 args.length := ⟨by omega, by omega⟩
  have hsz : ∀ x : Str, (([] : List Str).length + [x].length) * 16 ≤ 140737488355328 := fun x => by simp
  have hm1 : ix args 1 ∈ args := by rw [ix_1 (by omega)]; exact List.getElem_mem _
  unfold tRest rRest
  simp only [hk2, Int.reduceEq, if_true, if_false, decide_true, letO, need_eq hb1, need_eq hb2, need_eq (hsz _), Option.bind_some, Int.reduceLT, List.nil_append]
  rw [show table.counted args 2 = _ from ht, show mewsref01.Parse (ix args 2) = _ from hp]
  exact counted_end args hl [ix args 1] (by simp) (by simpa using hm1) 2 (by omega) v ok hI
 ·obtain ⟨hk3, hA⟩ := hk
  have hn4 : 3 ≤ args.length := by omega
  obtain ⟨v, ok, hI, hp, ht⟩ := counted_both args hl hs [] (by simp) 1 (by omega)
  have hb1 : InB 1 args.length := ⟨by omega, by omega⟩
  unfold tRest rRest
  simp only [hk3, Int.reduceEq, if_true, if_false, decide_true, letO, need_eq hb1, Option.bind_some, Int.reduceLT]
  rw [show table.counted args 1 = _ from ht, show mewsref01.Parse (ix args 1) = _ from hp]
  exact counted_end args hl [] (by simp) (by simp) 1 (by omega) v ok hI

theorem same28_self (a : List Str) (ha : a.length < 1000000000000000) : mewsref02.Same a a = some true := by
 have : mewsref02.Same.loop0 a a ⟨0⟩ = some (.inl ()) := by
  unfold mewsref02.Same.loop0
  refine whileO_knownE ⟨0⟩ (fun i => (⟨(i : Int)⟩ : mewsref02.Same.S0)) a.length (fun i hi => ?_) ?_
  ·unfold mewsref02.Same.body0
   simp only
   rw [if_pos (by omega), need_eq ⟨by omega, by omega⟩, need_eq ⟨by omega, by omega⟩, if_pos trivial, i64w (by omega) (by omega)]
   rfl
  ·unfold mewsref02.Same.body0
   exact if_neg (by show ¬ (a.length : Int) < (a.length : Int); omega)
 unfold mewsref02.Same
 rw [if_pos rfl, this]
 rfl

theorem found_go (args : List Str) (hl : args.length ≤ 100) (r : List Str × Bool) (i : Nat) (hi : i < r.1.length) : ∀ (m j : Nat) (b : Bool), j + m = args.length →
  mewslaw28.TableKeys.loop2 args r ⟨(i : Int)⟩ ⟨b, (j : Int)⟩ = some (b || (args.drop j).any (fun x => decide (x = r.1[i])))
 | 0, j, b, e => by
  unfold mewslaw28.TableKeys.loop2
  rw [List.drop_eq_nil_of_le (by omega), List.any_nil, Bool.or_false]
  apply whileO_end
  unfold mewslaw28.TableKeys.body2
  rw [if_neg (by simp only; omega)]
 | m + 1, j, b, e => by
  have hj : j < args.length := by omega
  have hb : mewslaw28.TableKeys.body2 args r ⟨(i : Int)⟩ ⟨b, (j : Int)⟩ = some (.inl ⟨b || decide (args[j] = r.1[i]), ((j + 1 : Nat) : Int)⟩) := by
   unfold mewslaw28.TableKeys.body2
   simp only
   rw [if_pos (by omega), need_eq ⟨by omega, by omega⟩, ix_get hj, ix_get hi, i64w (by omega) (by omega)]
   cases b <;> rfl
  have hih := found_go args hl r i hi m (j + 1) (b || decide (args[j] = r.1[i])) (by omega)
  unfold mewslaw28.TableKeys.loop2 at hih ⊢
  rw [whileO_next hb hih, List.drop_eq_getElem_cons hj, List.any_cons, Bool.or_assoc]

theorem Pure.TableKeys {a0 : List (List UInt8)} (h0' : a0.length * 16 ≤ 140737488351232 ∧ ∀ y ∈ a0, y.length ≤ 140737488351232) : mewslaw28.TableKeys a0 = some true := by
 have h0 : a0.length < 1000000000000000 := by have := h0'.1; omega
 unfold mewslaw28.TableKeys
 obtain ⟨b, hb, hf⟩ := far_eq a0 h0
 rw [hb, Option.bind_some]
 cases b with
 | true => rw [if_pos rfl, alive_eq]; rfl
 | false =>
  obtain ⟨hl, hs⟩ := hf rfl
  obtain ⟨l, b, h1, h2, h3, h4⟩ := Keys_both a0 hl hs
  rw [if_neg (by decide), h1, Option.bind_some, h2, Option.bind_some]
  have hloop : mewslaw28.TableKeys.loop0 (l, b) a0 ⟨0⟩ = some (.inl ()) := by
   unfold mewslaw28.TableKeys.loop0
   refine whileO_knownE ⟨0⟩ (fun i => (⟨(i : Int)⟩ : mewslaw28.TableKeys.S0)) l.length (fun i hi => ?_) ?_
   ·unfold mewslaw28.TableKeys.body0
    have hfo := found_go a0 hl (l, b) i hi a0.length 0 false (by omega)
    simp only
    rw [if_pos (by omega), need_eq ⟨by omega, by omega⟩, show mewslaw28.TableKeys.loop2 a0 (l, b) ⟨(i : Int)⟩ ⟨false, 0⟩ = _ from hfo, Option.bind_some]
    have : (a0.any fun x => decide (x = l[i])) = true := List.any_eq_true.2 ⟨l[i], h3 _ (List.getElem_mem hi), by simp⟩
    simp only [List.drop_zero, Bool.false_or]
    rw [this, if_neg (by decide), i64w (by omega) (by omega)]
    rfl
   ·unfold mewslaw28.TableKeys.body0
    exact if_neg (by show ¬ (l.length : Int) < (l.length : Int); omega)
  rw [hloop, Option.bind_some]
  show ((_ : Option Bool).bind _ : Option Bool) = _
  simp only [onSum]
  rw [same28_self l (by omega), Option.bind_some, if_pos rfl, if_pos (by simp), alive_eq]
  rfl

end Go.Pu
