import Derived.Test.YtnlnolbgakfofaaMEPuStrL0
import Derived.Test.YtnlnolbgakfofaaMEC
set_option maxHeartbeats 0
set_option maxRecDepth 100000
namespace Go.Pu
open Go.Lift

theorem take_sn {α : Type} {l : List α} {i : Nat} (h : i < l.length) : l.take (i + 1) = l.take i ++ [l[i]] := by
 rw [List.take_add_one, List.getElem?_eq_getElem h]; rfl

def sumL {α : Type} (f : α → Nat) (l : List α) : Nat := (l.map f).sum
theorem sumL_nil {α : Type} (f : α → Nat) : sumL f [] = 0 := rfl
theorem sumL_append {α : Type} (f : α → Nat) (a b : List α) : sumL f (a ++ b) = sumL f a + sumL f b := by simp [sumL]
theorem sumL_one {α : Type} (f : α → Nat) (a : α) : sumL f [a] = f a := by simp [sumL]
theorem sumL_succ {α : Type} (f : α → Nat) {l : List α} {i : Nat} (h : i < l.length) : sumL f (l.take (i + 1)) = sumL f (l.take i) + f l[i] := by
 rw [take_sn h, sumL_append, sumL_one]
theorem sumL_take {α : Type} (f : α → Nat) (l : List α) (i : Nat) : sumL f (l.take i) ≤ sumL f l := by
 conv => rhs; rw [← List.take_append_drop i l, sumL_append]
 omega
theorem sumL_mem {α : Type} (f : α → Nat) {l : List α} {x : α} (h : x ∈ l) : f x ≤ sumL f l := by
 obtain ⟨a, b, rfl⟩ := List.append_of_mem h
 rw [sumL_append, show x :: b = [x] ++ b from rfl, sumL_append, sumL_one]
 omega
theorem sumL_le {α : Type} {f g : α → Nat} {c : Nat} (h : ∀ x, f x ≤ c * g x) (l : List α) : sumL f l ≤ c * sumL g l := by
 induction l with
 | nil => exact Nat.zero_le _
 | cons a l ih =>
  rw [show a :: l = [a] ++ l from rfl, sumL_append, sumL_append, sumL_one, sumL_one, Nat.mul_add]
  have := h a
  omega
theorem sumL_len {α : Type} {g : α → Nat} (h : ∀ x, 1 ≤ g x) (l : List α) : l.length ≤ sumL g l := by
 induction l with
 | nil => exact Nat.zero_le _
 | cons a l ih =>
  rw [show a :: l = [a] ++ l from rfl, sumL_append, sumL_one]
  have := h a
  simp only [List.length_append, List.length_cons, List.length_nil]
  omega

def gS (s : Str) : Nat := 1 + s.length
def gF (f : api.Field) : Nat := 1 + f.Key.length + f.Val.length
def gZ (x : api.Scored) : Nat := 1 + x.Member.length

theorem size_loop0 (v : api.Value) (n0 : Nat) (h0 : n0 < 8000000000000000) (hl : v.List_.length < 1000000000000000) (hb : ∀ x, x ∈ v.List_ → gS x < 3000000000000000) :
  ∃ n : Nat, mewsref19.Size.loop0 v ⟨(n0 : Int), 0⟩ = some (n : Int) ∧ n0 ≤ n ∧ (n ≤ n0 ∨ n < 4000000000000000) ∧ (n ≤ 3000 → n = n0 + sumL gS v.List_) := by
 obtain ⟨r, h1, n, rfl, h2⟩ : ∃ r, mewsref19.Size.loop0 v ⟨(n0 : Int), 0⟩ = some r ∧ ∃ n : Nat, r = (n : Int) ∧ n0 ≤ n ∧ (n ≤ n0 ∨ n < 4000000000000000) ∧ (n ≤ 3000 → n = n0 + sumL gS v.List_) := by
  unfold mewsref19.Size.loop0
  refine whileO_meas (fun t => ∃ i : Nat, t.i = (i : Int) ∧ i ≤ v.List_.length ∧ t.n = ((n0 + sumL gS (v.List_.take i) : Nat) : Int) ∧ (n0 + sumL gS (v.List_.take i) ≤ n0 ∨ n0 + sumL gS (v.List_.take i) < 4000000000000000)) (fun t => v.List_.length - t.i.toNat) _ (fun t => ?_) _ ⟨0, rfl, by omega, by show (n0 : Int) = ((n0 + 0 : Nat) : Int); omega, .inl (Nat.le_refl _)⟩
  obtain ⟨tn, ti⟩ := t
  rintro ⟨i, e, hi, en, hbd⟩
  replace e : ti = (i : Int) := e
  replace en : tn = ((n0 + sumL gS (v.List_.take i) : Nat) : Int) := en
  subst e en
  have hle := sumL_take gS v.List_ i
  have hsu := fun h => sumL_succ gS (l := v.List_) (i := i) h
  generalize hA' : sumL gS (v.List_.take i) = A at hbd hle hsu
  unfold mewsref19.Size.body0 letO
  show (∃ s', (if (if (i : Int) < (v.List_.length : Int) then decide (((n0 + A : Nat) : Int) < 100000) else false) = true then _ else _ : Option _) = _ ∧ _) ∨ (∃ s', (if (if (i : Int) < (v.List_.length : Int) then decide (((n0 + A : Nat) : Int) < 100000) else false) = true then _ else _ : Option _) = _ ∧ _)
  by_cases hil : i < v.List_.length
  ·rw [if_pos (show (i : Int) < (v.List_.length : Int) by omega)]
   by_cases hn : ((n0 + A : Nat) : Int) < 100000
   ·rw [if_pos (decide_eq_true hn)]
    have hx := hb v.List_[i] (List.getElem_mem hil)
    have hs := hsu hil
    have hw : IntKind.wrap .i64 ((i : Int) + 1) = ((i + 1 : Nat) : Int) := by rw [i64w (by omega) (by omega)]; omega
    have hwn : IntKind.wrap .i64 (((n0 + A : Nat) : Int) + (IntKind.wrap .i64 (1 + ((ix v.List_ (i : Int)).length : Int)))) = ((n0 + sumL gS (v.List_.take (i + 1)) : Nat) : Int) := by
     rw [hs, ix_get hil]
     unfold gS at hx ⊢
     rw [i64w (n := (1 + _)) (by omega) (by omega), i64w (by omega) (by omega)]
     omega
    refine .inl ⟨⟨((n0 + sumL gS (v.List_.take (i + 1)) : Nat) : Int), ((i + 1 : Nat) : Int)⟩, ?_, ⟨i + 1, rfl, by omega, rfl, .inr (by omega)⟩, ?_⟩
    ·show need (InB (i : Int) v.List_.length) _ = _
     rw [need_eq ⟨by omega, by omega⟩]
     show some (Sum.inl (⟨IntKind.wrap .i64 (((n0 + A : Nat) : Int) + (IntKind.wrap .i64 (1 + ((ix v.List_ (i : Int)).length : Int)))), IntKind.wrap .i64 ((i : Int) + 1)⟩ : mewsref19.Size.S0)) = _
     rw [hwn, hw]
    ·show v.List_.length - (((i + 1 : Nat) : Int)).toNat < v.List_.length - (i : Int).toNat
     omega
   ·rw [if_neg (by simpa using hn)]
    exact .inr ⟨_, rfl, n0 + A, rfl, by omega, hbd, fun h => by omega⟩
  ·rw [if_neg (show ¬ (i : Int) < (v.List_.length : Int) by omega), if_neg (by decide)]
   refine .inr ⟨_, rfl, n0 + A, rfl, by omega, hbd, fun h => ?_⟩
   rw [← hA', List.take_of_length_le (by omega)]
 exact ⟨n, h1, h2⟩

theorem size_loop2 (v : api.Value) (n0 : Nat) (h0 : n0 < 8000000000000000) (hl : v.Hash.length < 1000000000000000) (hb : ∀ x, x ∈ v.Hash → gF x < 3000000000000000) :
  ∃ n : Nat, mewsref19.Size.loop2 v ⟨(n0 : Int), 0⟩ = some (n : Int) ∧ n0 ≤ n ∧ (n ≤ n0 ∨ n < 4000000000000000) ∧ (n ≤ 3000 → n = n0 + sumL gF v.Hash) := by
 obtain ⟨r, h1, n, rfl, h2⟩ : ∃ r, mewsref19.Size.loop2 v ⟨(n0 : Int), 0⟩ = some r ∧ ∃ n : Nat, r = (n : Int) ∧ n0 ≤ n ∧ (n ≤ n0 ∨ n < 4000000000000000) ∧ (n ≤ 3000 → n = n0 + sumL gF v.Hash) := by
  unfold mewsref19.Size.loop2
  refine whileO_meas (fun t => ∃ i : Nat, t.i = (i : Int) ∧ i ≤ v.Hash.length ∧ t.n = ((n0 + sumL gF (v.Hash.take i) : Nat) : Int) ∧ (n0 + sumL gF (v.Hash.take i) ≤ n0 ∨ n0 + sumL gF (v.Hash.take i) < 4000000000000000)) (fun t => v.Hash.length - t.i.toNat) _ (fun t => ?_) _ ⟨0, rfl, by omega, by show (n0 : Int) = ((n0 + 0 : Nat) : Int); omega, .inl (Nat.le_refl _)⟩
  obtain ⟨tn, ti⟩ := t
  rintro ⟨i, e, hi, en, hbd⟩
  replace e : ti = (i : Int) := e
  replace en : tn = ((n0 + sumL gF (v.Hash.take i) : Nat) : Int) := en
  subst e en
  have hle := sumL_take gF v.Hash i
  have hsu := fun h => sumL_succ gF (l := v.Hash) (i := i) h
  generalize hA' : sumL gF (v.Hash.take i) = A at hbd hle hsu
  unfold mewsref19.Size.body2 letO
  show (∃ s', (if (if (i : Int) < (v.Hash.length : Int) then decide (((n0 + A : Nat) : Int) < 100000) else false) = true then _ else _ : Option _) = _ ∧ _) ∨ (∃ s', (if (if (i : Int) < (v.Hash.length : Int) then decide (((n0 + A : Nat) : Int) < 100000) else false) = true then _ else _ : Option _) = _ ∧ _)
  by_cases hil : i < v.Hash.length
  ·rw [if_pos (show (i : Int) < (v.Hash.length : Int) by omega)]
   by_cases hn : ((n0 + A : Nat) : Int) < 100000
   ·rw [if_pos (decide_eq_true hn)]
    have hx := hb v.Hash[i] (List.getElem_mem hil)
    have hs := hsu hil
    have hw : IntKind.wrap .i64 ((i : Int) + 1) = ((i + 1 : Nat) : Int) := by rw [i64w (by omega) (by omega)]; omega
    have hwn : IntKind.wrap .i64 (((n0 + A : Nat) : Int) + (IntKind.wrap .i64 ((IntKind.wrap .i64 (1 + ((ix v.Hash (i : Int)).Key.length : Int))) + ((ix v.Hash (i : Int)).Val.length : Int)))) = ((n0 + sumL gF (v.Hash.take (i + 1)) : Nat) : Int) := by
     rw [hs, ix_get hil]
     unfold gF at hx ⊢
     rw [i64w (n := (1 + _)) (by omega) (by omega), i64w (n := 1 + _ + _) (by omega) (by omega), i64w (by omega) (by omega)]
     omega
    refine .inl ⟨⟨((n0 + sumL gF (v.Hash.take (i + 1)) : Nat) : Int), ((i + 1 : Nat) : Int)⟩, ?_, ⟨i + 1, rfl, by omega, rfl, .inr (by omega)⟩, ?_⟩
    ·show need (InB (i : Int) v.Hash.length) (need (InB (i : Int) v.Hash.length) _) = _
     rw [need_eq ⟨by omega, by omega⟩, need_eq ⟨by omega, by omega⟩]
     show some (Sum.inl (⟨IntKind.wrap .i64 (((n0 + A : Nat) : Int) + (IntKind.wrap .i64 ((IntKind.wrap .i64 (1 + ((ix v.Hash (i : Int)).Key.length : Int))) + ((ix v.Hash (i : Int)).Val.length : Int)))), IntKind.wrap .i64 ((i : Int) + 1)⟩ : mewsref19.Size.S2)) = _
     rw [hwn, hw]
    ·show v.Hash.length - (((i + 1 : Nat) : Int)).toNat < v.Hash.length - (i : Int).toNat
     omega
   ·rw [if_neg (by simpa using hn)]
    exact .inr ⟨_, rfl, n0 + A, rfl, by omega, hbd, fun h => by omega⟩
  ·rw [if_neg (show ¬ (i : Int) < (v.Hash.length : Int) by omega), if_neg (by decide)]
   refine .inr ⟨_, rfl, n0 + A, rfl, by omega, hbd, fun h => ?_⟩
   rw [← hA', List.take_of_length_le (by omega)]
 exact ⟨n, h1, h2⟩

theorem size_loop4 (v : api.Value) (n0 : Nat) (h0 : n0 < 8000000000000000) (hl : v.ZSet.length < 1000000000000000) (hb : ∀ x, x ∈ v.ZSet → gZ x < 3000000000000000) :
  ∃ n : Nat, mewsref19.Size.loop4 v ⟨(n0 : Int), 0⟩ = some (n : Int) ∧ n0 ≤ n ∧ (n ≤ n0 ∨ n < 4000000000000000) ∧ (n ≤ 3000 → n = n0 + sumL gZ v.ZSet) := by
 obtain ⟨r, h1, n, rfl, h2⟩ : ∃ r, mewsref19.Size.loop4 v ⟨(n0 : Int), 0⟩ = some r ∧ ∃ n : Nat, r = (n : Int) ∧ n0 ≤ n ∧ (n ≤ n0 ∨ n < 4000000000000000) ∧ (n ≤ 3000 → n = n0 + sumL gZ v.ZSet) := by
  unfold mewsref19.Size.loop4
  refine whileO_meas (fun t => ∃ i : Nat, t.i = (i : Int) ∧ i ≤ v.ZSet.length ∧ t.n = ((n0 + sumL gZ (v.ZSet.take i) : Nat) : Int) ∧ (n0 + sumL gZ (v.ZSet.take i) ≤ n0 ∨ n0 + sumL gZ (v.ZSet.take i) < 4000000000000000)) (fun t => v.ZSet.length - t.i.toNat) _ (fun t => ?_) _ ⟨0, rfl, by omega, by show (n0 : Int) = ((n0 + 0 : Nat) : Int); omega, .inl (Nat.le_refl _)⟩
  obtain ⟨tn, ti⟩ := t
  rintro ⟨i, e, hi, en, hbd⟩
  replace e : ti = (i : Int) := e
  replace en : tn = ((n0 + sumL gZ (v.ZSet.take i) : Nat) : Int) := en
  subst e en
  have hle := sumL_take gZ v.ZSet i
  have hsu := fun h => sumL_succ gZ (l := v.ZSet) (i := i) h
  generalize hA' : sumL gZ (v.ZSet.take i) = A at hbd hle hsu
  unfold mewsref19.Size.body4 letO
  show (∃ s', (if (if (i : Int) < (v.ZSet.length : Int) then decide (((n0 + A : Nat) : Int) < 100000) else false) = true then _ else _ : Option _) = _ ∧ _) ∨ (∃ s', (if (if (i : Int) < (v.ZSet.length : Int) then decide (((n0 + A : Nat) : Int) < 100000) else false) = true then _ else _ : Option _) = _ ∧ _)
  by_cases hil : i < v.ZSet.length
  ·rw [if_pos (show (i : Int) < (v.ZSet.length : Int) by omega)]
   by_cases hn : ((n0 + A : Nat) : Int) < 100000
   ·rw [if_pos (decide_eq_true hn)]
    have hx := hb v.ZSet[i] (List.getElem_mem hil)
    have hs := hsu hil
    have hw : IntKind.wrap .i64 ((i : Int) + 1) = ((i + 1 : Nat) : Int) := by rw [i64w (by omega) (by omega)]; omega
    have hwn : IntKind.wrap .i64 (((n0 + A : Nat) : Int) + (IntKind.wrap .i64 (1 + ((ix v.ZSet (i : Int)).Member.length : Int)))) = ((n0 + sumL gZ (v.ZSet.take (i + 1)) : Nat) : Int) := by
     rw [hs, ix_get hil]
     unfold gZ at hx ⊢
     rw [i64w (n := (1 + _)) (by omega) (by omega), i64w (by omega) (by omega)]
     omega
    refine .inl ⟨⟨((n0 + sumL gZ (v.ZSet.take (i + 1)) : Nat) : Int), ((i + 1 : Nat) : Int)⟩, ?_, ⟨i + 1, rfl, by omega, rfl, .inr (by omega)⟩, ?_⟩
    ·show need (InB (i : Int) v.ZSet.length) _ = _
     rw [need_eq ⟨by omega, by omega⟩]
     show some (Sum.inl (⟨IntKind.wrap .i64 (((n0 + A : Nat) : Int) + (IntKind.wrap .i64 (1 + ((ix v.ZSet (i : Int)).Member.length : Int)))), IntKind.wrap .i64 ((i : Int) + 1)⟩ : mewsref19.Size.S4)) = _
     rw [hwn, hw]
    ·show v.ZSet.length - (((i + 1 : Nat) : Int)).toNat < v.ZSet.length - (i : Int).toNat
     omega
   ·rw [if_neg (by simpa using hn)]
    exact .inr ⟨_, rfl, n0 + A, rfl, by omega, hbd, fun h => by omega⟩
  ·rw [if_neg (show ¬ (i : Int) < (v.ZSet.length : Int) by omega), if_neg (by decide)]
   refine .inr ⟨_, rfl, n0 + A, rfl, by omega, hbd, fun h => ?_⟩
   rw [← hA', List.take_of_length_le (by omega)]
 exact ⟨n, h1, h2⟩

def c1 (x : Str) : Nat := 16 + x.length
theorem of_loop1 (e : api.Entry) (n0 : Nat) (hb : n0 + sumL c1 e.Val.List_ < 4000000000000000000) (hl : e.Val.List_.length < 1000000000000000) : charge.Of.loop1 e ⟨(n0 : Int), 0⟩ = some ((n0 + sumL c1 e.Val.List_ : Nat) : Int) := by
 unfold charge.Of.loop1
 refine whileO_knownE _ (fun i => (⟨((n0 + sumL c1 (e.Val.List_.take i) : Nat) : Int), (i : Int)⟩ : charge.Of.S1)) e.Val.List_.length (fun i hi => ?_) ?_ (by simp [sumL])
 ·have h1 := sumL_take c1 e.Val.List_ (i + 1)
  have h2 := sumL_succ c1 hi
  unfold charge.Of.body1
  show (if (i : Int) < (e.Val.List_.length : Int) then _ else _) = _
  rw [if_pos (by omega)]
  show need (InB (i : Int) e.Val.List_.length) (some (Sum.inl (⟨IntKind.wrap .i64 (((n0 + sumL c1 (e.Val.List_.take i) : Nat) : Int) + (IntKind.wrap .i64 (16 + ((ix e.Val.List_ (i : Int)).length : Int)))), IntKind.wrap .i64 ((i : Int) + 1)⟩ : charge.Of.S1))) = some (Sum.inl (⟨((n0 + sumL c1 (e.Val.List_.take (i + 1)) : Nat) : Int), ((i + 1 : Nat) : Int)⟩ : charge.Of.S1))
  rw [need_eq ⟨by omega, by omega⟩, ix_get hi]
  generalize sumL c1 (e.Val.List_.take (i + 1)) = B at h1 h2
  generalize sumL c1 (e.Val.List_.take i) = A at h2
  have hB : (B : Int) = A + (c1 e.Val.List_[i] : Nat) := by omega
  unfold c1 at hB h2
  rw [i64w (n := 16 + _) (by omega) (by omega), i64w (by omega) (by omega), i64w (by omega) (by omega)]
  congr 3 <;> omega
 ·unfold charge.Of.body1
  show (if (e.Val.List_.length : Int) < (e.Val.List_.length : Int) then _ else _) = _
  rw [if_neg (by omega), List.take_length]

def c3 (x : Str) : Nat := 24 + x.length
theorem of_loop3 (e : api.Entry) (n0 : Nat) (hb : n0 + sumL c3 e.Val.List_ < 4000000000000000000) (hl : e.Val.List_.length < 1000000000000000) : charge.Of.loop3 e ⟨(n0 : Int), 0⟩ = some ((n0 + sumL c3 e.Val.List_ : Nat) : Int) := by
 unfold charge.Of.loop3
 refine whileO_knownE _ (fun i => (⟨((n0 + sumL c3 (e.Val.List_.take i) : Nat) : Int), (i : Int)⟩ : charge.Of.S3)) e.Val.List_.length (fun i hi => ?_) ?_ (by simp [sumL])
 ·have h1 := sumL_take c3 e.Val.List_ (i + 1)
  have h2 := sumL_succ c3 hi
  unfold charge.Of.body3
  show (if (i : Int) < (e.Val.List_.length : Int) then _ else _) = _
  rw [if_pos (by omega)]
  show need (InB (i : Int) e.Val.List_.length) (some (Sum.inl (⟨IntKind.wrap .i64 (((n0 + sumL c3 (e.Val.List_.take i) : Nat) : Int) + (IntKind.wrap .i64 (24 + ((ix e.Val.List_ (i : Int)).length : Int)))), IntKind.wrap .i64 ((i : Int) + 1)⟩ : charge.Of.S3))) = some (Sum.inl (⟨((n0 + sumL c3 (e.Val.List_.take (i + 1)) : Nat) : Int), ((i + 1 : Nat) : Int)⟩ : charge.Of.S3))
  rw [need_eq ⟨by omega, by omega⟩, ix_get hi]
  generalize sumL c3 (e.Val.List_.take (i + 1)) = B at h1 h2
  generalize sumL c3 (e.Val.List_.take i) = A at h2
  have hB : (B : Int) = A + (c3 e.Val.List_[i] : Nat) := by omega
  unfold c3 at hB h2
  rw [i64w (n := 24 + _) (by omega) (by omega), i64w (by omega) (by omega), i64w (by omega) (by omega)]
  congr 3 <;> omega
 ·unfold charge.Of.body3
  show (if (e.Val.List_.length : Int) < (e.Val.List_.length : Int) then _ else _) = _
  rw [if_neg (by omega), List.take_length]

def c5 (x : api.Field) : Nat := 32 + x.Key.length + x.Val.length
theorem of_loop5 (e : api.Entry) (n0 : Nat) (hb : n0 + sumL c5 e.Val.Hash < 4000000000000000000) (hl : e.Val.Hash.length < 1000000000000000) : charge.Of.loop5 e ⟨(n0 : Int), 0⟩ = some ((n0 + sumL c5 e.Val.Hash : Nat) : Int) := by
 unfold charge.Of.loop5
 refine whileO_knownE _ (fun i => (⟨((n0 + sumL c5 (e.Val.Hash.take i) : Nat) : Int), (i : Int)⟩ : charge.Of.S5)) e.Val.Hash.length (fun i hi => ?_) ?_ (by simp [sumL])
 ·have h1 := sumL_take c5 e.Val.Hash (i + 1)
  have h2 := sumL_succ c5 hi
  unfold charge.Of.body5
  show (if (i : Int) < (e.Val.Hash.length : Int) then _ else _) = _
  rw [if_pos (by omega)]
  show need (InB (i : Int) e.Val.Hash.length) (some (Sum.inl (⟨IntKind.wrap .i64 (((n0 + sumL c5 (e.Val.Hash.take i) : Nat) : Int) + (IntKind.wrap .i64 ((IntKind.wrap .i64 (32 + ((ix e.Val.Hash (i : Int)).Key.length : Int))) + ((ix e.Val.Hash (i : Int)).Val.length : Int)))), IntKind.wrap .i64 ((i : Int) + 1)⟩ : charge.Of.S5))) = some (Sum.inl (⟨((n0 + sumL c5 (e.Val.Hash.take (i + 1)) : Nat) : Int), ((i + 1 : Nat) : Int)⟩ : charge.Of.S5))
  rw [need_eq ⟨by omega, by omega⟩, ix_get hi]
  generalize sumL c5 (e.Val.Hash.take (i + 1)) = B at h1 h2
  generalize sumL c5 (e.Val.Hash.take i) = A at h2
  have hB : (B : Int) = A + (c5 e.Val.Hash[i] : Nat) := by omega
  unfold c5 at hB h2
  rw [i64w (n := 32 + _) (by omega) (by omega), i64w (n := 32 + _ + _) (by omega) (by omega), i64w (by omega) (by omega), i64w (by omega) (by omega)]
  congr 3 <;> omega
 ·unfold charge.Of.body5
  show (if (e.Val.Hash.length : Int) < (e.Val.Hash.length : Int) then _ else _) = _
  rw [if_neg (by omega), List.take_length]

def c7 (x : api.Scored) : Nat := 40 + x.Member.length
theorem of_loop7 (e : api.Entry) (n0 : Nat) (hb : n0 + sumL c7 e.Val.ZSet < 4000000000000000000) (hl : e.Val.ZSet.length < 1000000000000000) : charge.Of.loop7 e ⟨(n0 : Int), 0⟩ = some ((n0 + sumL c7 e.Val.ZSet : Nat) : Int) := by
 unfold charge.Of.loop7
 refine whileO_knownE _ (fun i => (⟨((n0 + sumL c7 (e.Val.ZSet.take i) : Nat) : Int), (i : Int)⟩ : charge.Of.S7)) e.Val.ZSet.length (fun i hi => ?_) ?_ (by simp [sumL])
 ·have h1 := sumL_take c7 e.Val.ZSet (i + 1)
  have h2 := sumL_succ c7 hi
  unfold charge.Of.body7
  show (if (i : Int) < (e.Val.ZSet.length : Int) then _ else _) = _
  rw [if_pos (by omega)]
  show need (InB (i : Int) e.Val.ZSet.length) (some (Sum.inl (⟨IntKind.wrap .i64 (((n0 + sumL c7 (e.Val.ZSet.take i) : Nat) : Int) + (IntKind.wrap .i64 (40 + ((ix e.Val.ZSet (i : Int)).Member.length : Int)))), IntKind.wrap .i64 ((i : Int) + 1)⟩ : charge.Of.S7))) = some (Sum.inl (⟨((n0 + sumL c7 (e.Val.ZSet.take (i + 1)) : Nat) : Int), ((i + 1 : Nat) : Int)⟩ : charge.Of.S7))
  rw [need_eq ⟨by omega, by omega⟩, ix_get hi]
  generalize sumL c7 (e.Val.ZSet.take (i + 1)) = B at h1 h2
  generalize sumL c7 (e.Val.ZSet.take i) = A at h2
  have hB : (B : Int) = A + (c7 e.Val.ZSet[i] : Nat) := by omega
  unfold c7 at hB h2
  rw [i64w (n := 40 + _) (by omega) (by omega), i64w (by omega) (by omega), i64w (by omega) (by omega)]
  congr 3 <;> omega
 ·unfold charge.Of.body7
  show (if (e.Val.ZSet.length : Int) < (e.Val.ZSet.length : Int) then _ else _) = _
  rw [if_neg (by omega), List.take_length]

end Go.Pu

set_option maxHeartbeats 0
set_option maxRecDepth 100000
namespace Go.Pu
open Go.Lift

structure FitsV (v : api.Value) : Prop where
 t : v.Text.length < 1000000000000000
 l : v.List_.length < 1000000000000000
 l1 : ∀ x, x ∈ v.List_ → gS x < 3000000000000000
 h : v.Hash.length < 1000000000000000
 h1 : ∀ x, x ∈ v.Hash → gF x < 3000000000000000
 z : v.ZSet.length < 1000000000000000
 z1 : ∀ x, x ∈ v.ZSet → gZ x < 3000000000000000

structure SmallV (v : api.Value) : Prop where
 t : v.Text.length ≤ 3000
 l : sumL gS v.List_ ≤ 3000
 h : sumL gF v.Hash ≤ 3000
 z : sumL gZ v.ZSet ≤ 3000

theorem Size_eq {v : api.Value} (h : FitsV v) : ∃ n : Nat, mewsref19.Size v = some (n : Int) ∧ n < 8000000000000000 ∧ (n ≤ 3000 → SmallV v) := by
 have ht := h.t
 obtain ⟨n1, e1, a1, b1, c1⟩ := size_loop0 v v.Text.length (by omega) h.l h.l1
 obtain ⟨n2, e2, a2, b2, c2⟩ := size_loop2 v n1 (by omega) h.h h.h1
 obtain ⟨n3, e3, a3, b3, c3⟩ := size_loop4 v n2 (by omega) h.z h.z1
 refine ⟨n3, ?_, by omega, fun hn => ?_⟩
 ·unfold mewsref19.Size
  rw [e1, Option.bind_some, e2, Option.bind_some, e3]
  rfl
 ·have h3 := c3 hn
  have h2 := c2 (by omega)
  have h1 := c1 (by omega)
  exact ⟨by omega, by omega, by omega, by omega⟩

theorem Far_eq (ls : List api.Value) (hls : ls.length < 1000000000000000) (hf : ∀ v, v ∈ ls → FitsV v) : ∃ b, mewslaw19.Far ls = some b ∧ (b = false → ∀ v, v ∈ ls → SmallV v) := by
 have main : ∃ q, mewslaw19.Far.loop0 ls ⟨0, 0⟩ = some q ∧ (q = .inr true ∨ (q = .inl () ∧ ∀ l, l ∈ ls → SmallV l)) := by
  unfold mewslaw19.Far.loop0
  refine whileO_meas (fun t => ∃ i : Nat, t.t8 = (i : Int) ∧ i ≤ ls.length ∧ 0 ≤ t.n ∧ t.n ≤ 3000 ∧ ∀ l, l ∈ ls.take i → SmallV l) (fun t => ls.length - t.t8.toNat) _ (fun t => ?_) _ ⟨0, rfl, by omega, by show (0 : Int) ≤ 0; omega, by show (0 : Int) ≤ 3000; omega, by simp⟩
  obtain ⟨tn, ti⟩ := t
  rintro ⟨i, e, hi, h0, h1, h3⟩
  replace e : ti = (i : Int) := e
  replace h0 : 0 ≤ tn := h0
  replace h1 : tn ≤ 3000 := h1
  subst e
  unfold mewslaw19.Far.body0
  show (∃ s', (if (i : Int) < (ls.length : Int) then _ else _ : Option _) = _ ∧ _) ∨ (∃ s', (if (i : Int) < (ls.length : Int) then _ else _ : Option _) = _ ∧ _)
  by_cases hil : i < ls.length
  ·rw [if_pos (by omega), need_eq ⟨by show (0 : Int) ≤ (i : Int); omega, by show (i : Int) < (ls.length : Int); omega⟩]
   show (∃ s', ((mewsref19.Size (ix ls (i : Int))).bind _) = _ ∧ _) ∨ _
   obtain ⟨n, en, hn1, hs⟩ := Size_eq (hf ls[i] (List.getElem_mem hil))
   rw [ix_get hil, en, Option.bind_some]
   show (∃ s', (if 3000 < IntKind.wrap .i64 (tn + (n : Int)) then _ else some (Sum.inl (⟨IntKind.wrap .i64 (tn + (n : Int)), IntKind.wrap .i64 ((i : Int) + 1)⟩ : mewslaw19.Far.S0)) : Option _) = _ ∧ _) ∨ _
   rw [i64w (n := tn + n) (by omega) (by omega), i64w (by omega) (by omega)]
   by_cases h3000 : 3000 < tn + n
   ·rw [if_pos h3000]
    exact .inr ⟨_, rfl, .inl rfl⟩
   ·rw [if_neg h3000]
    refine .inl ⟨_, rfl, ⟨i + 1, by show (i : Int) + 1 = _; omega, by omega, by show 0 ≤ tn + n; omega, by show tn + n ≤ 3000; omega, fun l hlm => ?_⟩, ?_⟩
    ·rw [take_sn hil] at hlm
     rcases List.mem_append.1 hlm with hlm | hlm
     ·exact h3 l hlm
     ·simp at hlm; subst hlm
      exact hs (by omega)
    ·show ls.length - ((i : Int) + 1).toNat < ls.length - (i : Int).toNat
     omega
  ·rw [if_neg (by omega)]
   rw [List.take_of_length_le (by omega)] at h3
   exact .inr ⟨_, rfl, .inr ⟨rfl, h3⟩⟩
 obtain ⟨q, hq, h⟩ := main
 unfold mewslaw19.Far
 rw [hq, Option.bind_some]
 rcases h with rfl | ⟨rfl, h⟩
 ·exact ⟨true, rfl, fun h => by cases h⟩
 ·exact ⟨_, rfl, fun _ => h⟩

/-! ### What is charged -/
def kindN (v : api.Value) : Nat :=
 if v.Kind = 1 then v.Text.length else if v.Kind = 2 then sumL c1 v.List_ else if v.Kind = 4 then sumL c3 v.List_ else if v.Kind = 3 then sumL c5 v.Hash else if v.Kind = 5 then sumL c7 v.ZSet else 0
def ofM (e : api.Entry) : Nat := 56 + e.Key.length + (if e.At = 0 then 0 else 16) + kindN e.Val

/-- What is not too much to be charged. -/
structure Okay (e : api.Entry) : Prop where
 k : e.Key.length < 1000000000000000
 t : e.Val.Text.length < 1000000000000000
 l : e.Val.List_.length < 1000000000000000
 l1 : sumL c1 e.Val.List_ < 1000000000000000
 l3 : sumL c3 e.Val.List_ < 1000000000000000
 h : e.Val.Hash.length < 1000000000000000
 h1 : sumL c5 e.Val.Hash < 1000000000000000
 z : e.Val.ZSet.length < 1000000000000000
 z1 : sumL c7 e.Val.ZSet < 1000000000000000

theorem Of_eq {e : api.Entry} (h : Okay e) : charge.Of e = some (ofM e : Int) := by
 obtain ⟨k, t, l, l1, l3, hh, h1, z, z1⟩ := h
 unfold charge.Of letO
 have h0 : (if e.At = 0 then IntKind.wrap .i64 (56 + (e.Key.length : Int)) else IntKind.wrap .i64 ((IntKind.wrap .i64 (56 + (e.Key.length : Int))) + 16)) = ((56 + e.Key.length + (if e.At = 0 then 0 else 16) : Nat) : Int) := by
  rw [i64w (n := 56 + (e.Key.length : Int)) (by omega) (by omega), i64w (by omega) (by omega)]
  by_cases ha : e.At = 0
  ·rw [if_pos ha, if_pos ha]; omega
  ·rw [if_neg ha, if_neg ha]; omega
 have hb : 56 + e.Key.length + (if e.At = 0 then 0 else 16) < 2000000000000000 := by split <;> omega
 show ((if e.Val.Kind = 1 then some (IntKind.wrap .i64 ((if e.At = 0 then IntKind.wrap .i64 (56 + (e.Key.length : Int)) else IntKind.wrap .i64 ((IntKind.wrap .i64 (56 + (e.Key.length : Int))) + 16)) + (e.Val.Text.length : Int))) else if e.Val.Kind = 2 then charge.Of.loop1 e ⟨(if e.At = 0 then IntKind.wrap .i64 (56 + (e.Key.length : Int)) else IntKind.wrap .i64 ((IntKind.wrap .i64 (56 + (e.Key.length : Int))) + 16)), 0⟩ else if e.Val.Kind = 4 then charge.Of.loop3 e ⟨(if e.At = 0 then IntKind.wrap .i64 (56 + (e.Key.length : Int)) else IntKind.wrap .i64 ((IntKind.wrap .i64 (56 + (e.Key.length : Int))) + 16)), 0⟩ else if e.Val.Kind = 3 then charge.Of.loop5 e ⟨(if e.At = 0 then IntKind.wrap .i64 (56 + (e.Key.length : Int)) else IntKind.wrap .i64 ((IntKind.wrap .i64 (56 + (e.Key.length : Int))) + 16)), 0⟩ else if e.Val.Kind = 5 then charge.Of.loop7 e ⟨(if e.At = 0 then IntKind.wrap .i64 (56 + (e.Key.length : Int)) else IntKind.wrap .i64 ((IntKind.wrap .i64 (56 + (e.Key.length : Int))) + 16)), 0⟩ else some (if e.At = 0 then IntKind.wrap .i64 (56 + (e.Key.length : Int)) else IntKind.wrap .i64 ((IntKind.wrap .i64 (56 + (e.Key.length : Int))) + 16)) : Option Int).bind _) = _
 rw [h0]
 unfold ofM kindN
 generalize 56 + e.Key.length + (if e.At = 0 then 0 else 16) = n0 at hb
 by_cases k1 : e.Val.Kind = 1
 ·rw [if_pos k1, if_pos k1, i64w (by omega) (by omega), Option.bind_some]
  congr 1
 ·rw [if_neg k1, if_neg k1]
  by_cases k2 : e.Val.Kind = 2
  ·rw [if_pos k2, if_pos k2, of_loop1 e n0 (by omega) l]; rfl
  ·rw [if_neg k2, if_neg k2]
   by_cases k4 : e.Val.Kind = 4
   ·rw [if_pos k4, if_pos k4, of_loop3 e n0 (by omega) l]; rfl
   ·rw [if_neg k4, if_neg k4]
    by_cases k3 : e.Val.Kind = 3
    ·rw [if_pos k3, if_pos k3, of_loop5 e n0 (by omega) hh]; rfl
    ·rw [if_neg k3, if_neg k3]
     by_cases k5 : e.Val.Kind = 5
     ·rw [if_pos k5, if_pos k5, of_loop7 e n0 (by omega) z]; rfl
     ·rw [if_neg k5, if_neg k5]; rfl

theorem SmallV.c1 {v : api.Value} (h : SmallV v) : sumL c1 v.List_ ≤ 120000 := by
 have := sumL_le (f := Go.Pu.c1) (g := gS) (c := 40) (fun x => by unfold Go.Pu.c1 gS; omega) v.List_
 have := h.l
 omega
theorem SmallV.c3 {v : api.Value} (h : SmallV v) : sumL c3 v.List_ ≤ 120000 := by
 have := sumL_le (f := Go.Pu.c3) (g := gS) (c := 40) (fun x => by unfold Go.Pu.c3 gS; omega) v.List_
 have := h.l
 omega
theorem SmallV.c5 {v : api.Value} (h : SmallV v) : sumL c5 v.Hash ≤ 120000 := by
 have := sumL_le (f := Go.Pu.c5) (g := gF) (c := 40) (fun x => by unfold Go.Pu.c5 gF; omega) v.Hash
 have := h.h
 omega
theorem SmallV.c7 {v : api.Value} (h : SmallV v) : sumL c7 v.ZSet ≤ 120000 := by
 have := sumL_le (f := Go.Pu.c7) (g := gZ) (c := 40) (fun x => by unfold Go.Pu.c7 gZ; omega) v.ZSet
 have := h.z
 omega
theorem SmallV.lens {v : api.Value} (h : SmallV v) : v.List_.length ≤ 3000 ∧ v.Hash.length ≤ 3000 ∧ v.ZSet.length ≤ 3000 := by
 have h1 := sumL_len (g := gS) (fun x => by unfold gS; omega) v.List_
 have h2 := sumL_len (g := gF) (fun x => by unfold gF; omega) v.Hash
 have h3 := sumL_len (g := gZ) (fun x => by unfold gZ; omega) v.ZSet
 have := h.l
 have := h.h
 have := h.z
 omega

/-! ### alive -/
theorem set_alive : charge.Set [[98], [97], [98]] = some { Kind := 4, Text := [], List_ := [[97], [98]], Hash := [], ZSet := [] } := by
 have h1 : ([[98], [97], [98]] : List Str).mergeSort (fun a b => decide (a ≤ b)) = [[97], [98], [98]] := by
  have a1 : ¬ (([98] : Str) ≤ [97]) := by decide
  have a2 : ([97] : Str) ≤ [98] := by decide
  have a3 : ([98] : Str) ≤ [98] := by decide
  simp [List.mergeSort, List.MergeSort.Internal.splitInTwo, List.merge, a1, a2, a3]
 have h2 : Go.Lib.compact ([[97], [98], [98]] : List Str) = [[97], [98]] := by decide
 unfold charge.Set
 rw [if_neg (by decide)]
 unfold slices.Clone_string slices.Sort_string slices.Compact_string slices.Clip_string
 rw [need_eq (by decide), Option.bind_some, need_eq (by decide), Option.bind_some, h1, need_eq (by decide), Option.bind_some, h2, need_eq (by decide), Option.bind_some]
 rfl

theorem alive19 : mewslaw19.alive = some true := by
 unfold mewslaw19.alive
 rw [set_alive]
 have e1 : charge.Text [98, 99] = some { Kind := 1, Text := [98, 99], List_ := [], Hash := [], ZSet := [] } := rfl
 have e2 : charge.Of { Key := [97], Val := { Kind := 1, Text := [98, 99], List_ := [], Hash := [], ZSet := [] }, At := 0 } = some 59 := charge.Of.c_le 100 _ _ (by decide +kernel)
 have e3 : charge.Of { Key := [97], Val := { Kind := 1, Text := [98, 99], List_ := [], Hash := [], ZSet := [] }, At := 7 } = some 75 := charge.Of.c_le 100 _ _ (by decide +kernel)
 have e4 : charge.All [{ Key := [97], Val := { Kind := 1, Text := [98, 99], List_ := [], Hash := [], ZSet := [] }, At := 0 }, { Key := [97], Val := { Kind := 1, Text := [98, 99], List_ := [], Hash := [], ZSet := [] }, At := 7 }] = some 134 := charge.All.c_le 100 _ _ (by decide +kernel)
 have e5 : charge.May { Kind := 4, Text := [], List_ := [[97], [98]], Hash := [], ZSet := [] } = some true := charge.May.c_le 100 _ _ (by decide +kernel)
 have e6 : charge.Name 5 = some [122, 115, 101, 116] := by decide
 rw [e1, Option.bind_some, e2, Option.bind_some, if_pos rfl, e3, Option.bind_some, if_pos rfl, e4, Option.bind_some, if_pos rfl, Option.bind_some, e5, Option.bind_some, if_pos rfl, e6]
 rfl


/-! ### ChargeMore -/
theorem fits_wf {v : api.Value} (h : api.Value.wf v) : FitsV v := by
 obtain ⟨_, h2, ⟨h3, h3'⟩, ⟨h4, h4'⟩, ⟨h5, h5'⟩, _⟩ := h
 refine ⟨by omega, by omega, fun x hx => ?_, by omega, fun x hx => ?_, by omega, fun x hx => ?_⟩
 ·have := h3' x hx
  unfold gS
  omega
 ·obtain ⟨a, b, _⟩ := h4' x hx
  unfold gF
  omega
 ·obtain ⟨a, _⟩ := h5' x hx
  unfold gZ
  omega

end Go.Pu
