import Derived.Test.YtnlnolbgakfofaaCVPuStrL
import Derived.Test.YtnlnolbgakfofaaCVC
set_option maxHeartbeats 0
set_option maxRecDepth 100000
namespace Go.Pu
open Go.Lift

theorem take_sn {α : Type} {l : List α} {i : Nat} (h : i < l.length) : l.take (i + 1) = l.take i ++ [l[i]] := by
 rw [List.take_add_one, List.getElem?_eq_getElem h]; rfl

def sumL {α : Type} (f : α → Nat) (l : List α) : Nat := (l.map f).sum
theorem sumL_nil {α : Type} (f : α → Nat) : sumL f [] = 0 := rfl
theorem sumL_append {α : Type} (f : α → Nat) (a b : List α) : sumL f (a ++ b) = sumL f a + sumL f b := by simp [sumL]
theorem sumL_one {α : Type} (f : α → Nat) (a : α) : sumL f [a] = f a := by simp [sumL]
theorem sumL_succ {α : Type} (f : α → Nat) {l : List α} {i : Nat} (h : i < l.length) : sumL f (l.take (i + 1)) = sumL f (l.take i) + f l[i] := by
 rw [take_sn h, sumL_append, sumL_one]
theorem sumL_take {α : Type} (f : α → Nat) (l : List α) (i : Nat) : sumL f (l.take i) ≤ sumL f l := by
 conv => rhs; rw [← List.take_append_drop i l, sumL_append]
 omega
theorem sumL_mem {α : Type} (f : α → Nat) {l : List α} {x : α} (h : x ∈ l) : f x ≤ sumL f l := by
 obtain ⟨a, b, rfl⟩ := List.append_of_mem h
 rw [sumL_append, show x :: b = [x] ++ b from rfl, sumL_append, sumL_one]
 omega
theorem sumL_le {α : Type} {f g : α → Nat} {c : Nat} (h : ∀ x, f x ≤ c * g x) (l : List α) : sumL f l ≤ c * sumL g l := by
 induction l with
 | nil => exact Nat.zero_le _
 | cons a l ih =>
  rw [show a :: l = [a] ++ l from rfl, sumL_append, sumL_append, sumL_one, sumL_one, Nat.mul_add]
  have := h a
  omega
theorem sumL_len {α : Type} {g : α → Nat} (h : ∀ x, 1 ≤ g x) (l : List α) : l.length ≤ sumL g l := by
 induction l with
 | nil => exact Nat.zero_le _
 | cons a l ih =>
  rw [show a :: l = [a] ++ l from rfl, sumL_append, sumL_one]
  have := h a
  simp only [List.length_append, List.length_cons, List.length_nil]
  omega

def gS (s : Str) : Nat := 1 + s.length
def gF (f : api.Field) : Nat := 1 + f.Key.length + f.Val.length
def gZ (x : api.Scored) : Nat := 1 + x.Member.length

theorem size_loop0 (v : api.Value) (n0 : Nat) (h0 : n0 < 8000000000000000) (hl : v.List_.length < 1000000000000000) (hb : ∀ x, x ∈ v.List_ → gS x < 3000000000000000) :
  ∃ n : Nat, mewsref19.Size.loop0 v ⟨(n0 : Int), 0⟩ = some (n : Int) ∧ n0 ≤ n ∧ (n ≤ n0 ∨ n < 4000000000000000) ∧ (n ≤ 3000 → n = n0 + sumL gS v.List_) := by
 obtain ⟨r, h1, n, rfl, h2⟩ : ∃ r, mewsref19.Size.loop0 v ⟨(n0 : Int), 0⟩ = some r ∧ ∃ n : Nat, r = (n : Int) ∧ n0 ≤ n ∧ (n ≤ n0 ∨ n < 4000000000000000) ∧ (n ≤ 3000 → n = n0 + sumL gS v.List_) := by
  unfold mewsref19.Size.loop0
  refine whileO_meas (fun t => ∃ i : Nat, t.i = (i : Int) ∧ i ≤ v.List_.length ∧ t.n = ((n0 + sumL gS (v.List_.take i) : Nat) : Int) ∧ (n0 + sumL gS (v.List_.take i) ≤ n0 ∨ n0 + sumL gS (v.List_.take i) < 4000000000000000)) (fun t => v.List_.length - t.i.toNat) _ (fun t => ?_) _ ⟨0, rfl, by omega, by show (n0 : Int) = ((n0 + 0 : Nat) : Int); omega, .inl (Nat.le_refl _)⟩
  obtain ⟨tn, ti⟩ := t
  rintro ⟨i, e, hi, en, hbd⟩
  replace e : ti = (i : Int) := e
  replace en : tn = ((n0 + sumL gS (v.List_.take i) : Nat) : Int) := en
  subst e en
  have hle := sumL_take gS v.List_ i
  have hsu := fun h => sumL_succ gS (l := v.List_) (i := i) h
  generalize hA' : sumL gS (v.List_.take i) = A at hbd hle hsu
  unfold mewsref19.Size.body0 letO
  show (∃ s', (if (if (i : Int) < (v.List_.length : Int) then decide (((n0 + A : Nat) : Int) < 100000) else false) = true then _ else _ : Option _) = _ ∧ _) ∨ (∃ s', (if (if (i : Int) < (v.List_.length : Int) then decide (((n0 + A : Nat) : Int) < 100000) else false) = true then _ else _ : Option _) = _ ∧ _)
  by_cases hil : i < v.List_.length
  ·rw [if_pos (show (i : Int) < (v.List_.length : Int) by omega)]
   by_cases hn : ((n0 + A : Nat) : Int) < 100000
   ·rw [if_pos (decide_eq_true hn)]
    have hx := hb v.List_[i] (List.getElem_mem hil)
    have hs := hsu hil
    have hw : IntKind.wrap .i64 ((i : Int) + 1) = ((i + 1 : Nat) : Int) := by rw [i64w (by omega) (by omega)]; omega
    have hwn : IntKind.wrap .i64 (((n0 + A : Nat) : Int) + (IntKind.wrap .i64 (1 + ((ix v.List_ (i : Int)).length : Int)))) = ((n0 + sumL gS (v.List_.take (i + 1)) : Nat) : Int) := by
     rw [hs, ix_get hil]
     unfold gS at hx ⊢
     rw [i64w (n := (1 + _)) (by omega) (by omega), i64w (by omega) (by omega)]
     omega
    refine .inl ⟨⟨((n0 + sumL gS (v.List_.take (i + 1)) : Nat) : Int), ((i + 1 : Nat) : Int)⟩, ?_, ⟨i + 1, rfl, by omega, rfl, .inr (by omega)⟩, ?_⟩
    ·show need (InB (i : Int) v.List_.length) _ = _
     rw [need_eq ⟨by omega, by omega⟩]
     show some (Sum.inl (⟨IntKind.wrap .i64 (((n0 + A : Nat) : Int) + (IntKind.wrap .i64 (1 + ((ix v.List_ (i : Int)).length : Int)))), IntKind.wrap .i64 ((i : Int) + 1)⟩ : mewsref19.Size.S0)) = _
     rw [hwn, hw]
    ·show v.List_.length - (((i + 1 : Nat) : Int)).toNat < v.List_.length - (i : Int).toNat
     omega
   ·rw [if_neg (by simpa using hn)]
    exact .inr ⟨_, rfl, n0 + A, rfl, by omega, hbd, fun h => by omega⟩
  ·rw [if_neg (show ¬ (i : Int) < (v.List_.length : Int) by omega), if_neg (by decide)]
   refine .inr ⟨_, rfl, n0 + A, rfl, by omega, hbd, fun h => ?_⟩
   rw [← hA', List.take_of_length_le (by omega)]
 exact ⟨n, h1, h2⟩

theorem size_loop2 (v : api.Value) (n0 : Nat) (h0 : n0 < 8000000000000000) (hl : v.Hash.length < 1000000000000000) (hb : ∀ x, x ∈ v.Hash → gF x < 3000000000000000) :
  ∃ n : Nat, mewsref19.Size.loop2 v ⟨(n0 : Int), 0⟩ = some (n : Int) ∧ n0 ≤ n ∧ (n ≤ n0 ∨ n < 4000000000000000) ∧ (n ≤ 3000 → n = n0 + sumL gF v.Hash) := by
 obtain ⟨r, h1, n, rfl, h2⟩ : ∃ r, mewsref19.Size.loop2 v ⟨(n0 : Int), 0⟩ = some r ∧ ∃ n : Nat, r = (n : Int) ∧ n0 ≤ n ∧ (n ≤ n0 ∨ n < 4000000000000000) ∧ (n ≤ 3000 → n = n0 + sumL gF v.Hash) := by
  unfold mewsref19.Size.loop2
  refine whileO_meas (fun t => ∃ i : Nat, t.i = (i : Int) ∧ i ≤ v.Hash.length ∧ t.n = ((n0 + sumL gF (v.Hash.take i) : Nat) : Int) ∧ (n0 + sumL gF (v.Hash.take i) ≤ n0 ∨ n0 + sumL gF (v.Hash.take i) < 4000000000000000)) (fun t => v.Hash.length - t.i.toNat) _ (fun t => ?_) _ ⟨0, rfl, by omega, by show (n0 : Int) = ((n0 + 0 : Nat) : Int); omega, .inl (Nat.le_refl _)⟩
  obtain ⟨tn, ti⟩ := t
  rintro ⟨i, e, hi, en, hbd⟩
  replace e : ti = (i : Int) := e
  replace en : tn = ((n0 + sumL gF (v.Hash.take i) : Nat) : Int) := en
  subst e en
  have hle := sumL_take gF v.Hash i
  have hsu := fun h => sumL_succ gF (l := v.Hash) (i := i) h
  generalize hA' : sumL gF (v.Hash.take i) = A at hbd hle hsu
  unfold mewsref19.Size.body2 letO
  show (∃ s', (if (if (i : Int) < (v.Hash.length : Int) then decide (((n0 + A : Nat) : Int) < 100000) else false) = true then _ else _ : Option _) = _ ∧ _) ∨ (∃ s', (if (if (i : Int) < (v.Hash.length : Int) then decide (((n0 + A : Nat) : Int) < 100000) else false) = true then _ else _ : Option _) = _ ∧ _)
  by_cases hil : i < v.Hash.length
  ·rw [if_pos (show (i : Int) < (v.Hash.length : Int) by omega)]
   by_cases hn : ((n0 + A : Nat) : Int) < 100000
   ·rw [if_pos (decide_eq_true hn)]
    have hx := hb v.Hash[i] (List.getElem_mem hil)
    have hs := hsu hil
    have hw : IntKind.wrap .i64 ((i : Int) + 1) = ((i + 1 : Nat) : Int) := by rw [i64w (by omega) (by omega)]; omega
    have hwn : IntKind.wrap .i64 (((n0 + A : Nat) : Int) + (IntKind.wrap .i64 ((IntKind.wrap .i64 (1 + ((ix v.Hash (i : Int)).Key.length : Int))) + ((ix v.Hash (i : Int)).Val.length : Int)))) = ((n0 + sumL gF (v.Hash.take (i + 1)) : Nat) : Int) := by
     rw [hs, ix_get hil]
     unfold gF at hx ⊢
     rw [i64w (n := (1 + _)) (by omega) (by omega), i64w (n := 1 + _ + _) (by omega) (by omega), i64w (by omega) (by omega)]
     omega
    refine .inl ⟨⟨((n0 + sumL gF (v.Hash.take (i + 1)) : Nat) : Int), ((i + 1 : Nat) : Int)⟩, ?_, ⟨i + 1, rfl, by omega, rfl, .inr (by omega)⟩, ?_⟩
    ·show need (InB (i : Int) v.Hash.length) (need (InB (i : Int) v.Hash.length) _) = _
     rw [need_eq ⟨by omega, by omega⟩, need_eq ⟨by omega, by omega⟩]
     show some (Sum.inl (⟨IntKind.wrap .i64 (((n0 + A : Nat) : Int) + (IntKind.wrap .i64 ((IntKind.wrap .i64 (1 + ((ix v.Hash (i : Int)).Key.length : Int))) + ((ix v.Hash (i : Int)).Val.length : Int)))), IntKind.wrap .i64 ((i : Int) + 1)⟩ : mewsref19.Size.S2)) = _
     rw [hwn, hw]
    ·show v.Hash.length - (((i + 1 : Nat) : Int)).toNat < v.Hash.length - (i : Int).toNat
     omega
   ·rw [if_neg (by simpa using hn)]
    exact .inr ⟨_, rfl, n0 + A, rfl, by omega, hbd, fun h => by omega⟩
  ·rw [if_neg (show ¬ (i : Int) < (v.Hash.length : Int) by omega), if_neg (by decide)]
   refine .inr ⟨_, rfl, n0 + A, rfl, by omega, hbd, fun h => ?_⟩
   rw [← hA', List.take_of_length_le (by omega)]
 exact ⟨n, h1, h2⟩

theorem size_loop4 (v : api.Value) (n0 : Nat) (h0 : n0 < 8000000000000000) (hl : v.ZSet.length < 1000000000000000) (hb : ∀ x, x ∈ v.ZSet → gZ x < 3000000000000000) :
  ∃ n : Nat, mewsref19.Size.loop4 v ⟨(n0 : Int), 0⟩ = some (n : Int) ∧ n0 ≤ n ∧ (n ≤ n0 ∨ n < 4000000000000000) ∧ (n ≤ 3000 → n = n0 + sumL gZ v.ZSet) := by
 obtain ⟨r, h1, n, rfl, h2⟩ : ∃ r, mewsref19.Size.loop4 v ⟨(n0 : Int), 0⟩ = some r ∧ ∃ n : Nat, r = (n : Int) ∧ n0 ≤ n ∧ (n ≤ n0 ∨ n < 4000000000000000) ∧ (n ≤ 3000 → n = n0 + sumL gZ v.ZSet) := by
  unfold mewsref19.Size.loop4
  refine whileO_meas (fun t => ∃ i : Nat, t.i = (i : Int) ∧ i ≤ v.ZSet.length ∧ t.n = ((n0 + sumL gZ (v.ZSet.take i) : Nat) : Int) ∧ (n0 + sumL gZ (v.ZSet.take i) ≤ n0 ∨ n0 + sumL gZ (v.ZSet.take i) < 4000000000000000)) (fun t => v.ZSet.length - t.i.toNat) _ (fun t => ?_) _ ⟨0, rfl, by omega, by show (n0 : Int) = ((n0 + 0 : Nat) : Int); omega, .inl (Nat.le_refl _)⟩
  obtain ⟨tn, ti⟩ := t
  rintro ⟨i, e, hi, en, hbd⟩
  replace e : ti = (i : Int) := e
  replace en : tn = ((n0 + sumL gZ (v.ZSet.take i) : Nat) : Int) := en
  subst e en
  have hle := sumL_take gZ v.ZSet i
  have hsu := fun h => sumL_succ gZ (l := v.ZSet) (i := i) h
  generalize hA' : sumL gZ (v.ZSet.take i) = A at hbd hle hsu
  unfold mewsref19.Size.body4 letO
  show (∃ s', (if (if (i : Int) < (v.ZSet.length : Int) then decide (((n0 + A : Nat) : Int) < 100000) else false) = true then _ else _ : Option _) = _ ∧ _) ∨ (∃ s', (if (if (i : Int) < (v.ZSet.length : Int) then decide (((n0 + A : Nat) : Int) < 100000) else false) = true then _ else _ : Option _) = _ ∧ _)
  by_cases hil : i < v.ZSet.length
  ·rw [if_pos (show (i : Int) < (v.ZSet.length : Int) by omega)]
   by_cases hn : ((n0 + A : Nat) : Int) < 100000
   ·rw [if_pos (decide_eq_true hn)]
    have hx := hb v.ZSet[i] (List.getElem_mem hil)
    have hs := hsu hil
    have hw : IntKind.wrap .i64 ((i : Int) + 1) = ((i + 1 : Nat) : Int) := by rw [i64w (by omega) (by omega)]; omega
    have hwn : IntKind.wrap .i64 (((n0 + A : Nat) : Int) + (IntKind.wrap .i64 (1 + ((ix v.ZSet (i : Int)).Member.length : Int)))) = ((n0 + sumL gZ (v.ZSet.take (i + 1)) : Nat) : Int) := by
     rw [hs, ix_get hil]
     unfold gZ at hx ⊢
     rw [i64w (n := (1 + _)) (by omega) (by omega), i64w (by omega) (by omega)]
     omega
    refine .inl ⟨⟨((n0 + sumL gZ (v.ZSet.take (i + 1)) : Nat) : Int), ((i + 1 : Nat) : Int)⟩, ?_, ⟨i + 1, rfl, by omega, rfl, .inr (by omega)⟩, ?_⟩
    ·show need (InB (i : Int) v.ZSet.length) _ = _
     rw [need_eq ⟨by omega, by omega⟩]
     show some (Sum.inl (⟨IntKind.wrap .i64 (((n0 + A : Nat) : Int) + (IntKind.wrap .i64 (1 + ((ix v.ZSet (i : Int)).Member.length : Int)))), IntKind.wrap .i64 ((i : Int) + 1)⟩ : mewsref19.Size.S4)) = _
     rw [hwn, hw]
    ·show v.ZSet.length - (((i + 1 : Nat) : Int)).toNat < v.ZSet.length - (i : Int).toNat
     omega
   ·rw [if_neg (by simpa using hn)]
    exact .inr ⟨_, rfl, n0 + A, rfl, by omega, hbd, fun h => by omega⟩
  ·rw [if_neg (show ¬ (i : Int) < (v.ZSet.length : Int) by omega), if_neg (by decide)]
   refine .inr ⟨_, rfl, n0 + A, rfl, by omega, hbd, fun h => ?_⟩
   rw [← hA', List.take_of_length_le (by omega)]
 exact ⟨n, h1, h2⟩

def c1 (x : Str) : Nat := 16 + x.length
theorem of_loop1 (e : api.Entry) (n0 : Nat) (hb : n0 + sumL c1 e.Val.List_ < 4000000000000000000) (hl : e.Val.List_.length < 1000000000000000) : charge.Of.loop1 e ⟨(n0 : Int), 0⟩ = some ((n0 + sumL c1 e.Val.List_ : Nat) : Int) := by
 unfold charge.Of.loop1
 refine whileO_knownE _ (fun i => (⟨((n0 + sumL c1 (e.Val.List_.take i) : Nat) : Int), (i : Int)⟩ : charge.Of.S1)) e.Val.List_.length (fun i hi => ?_) ?_ (by simp [sumL])
 ·have h1 := sumL_take c1 e.Val.List_ (i + 1)
  have h2 := sumL_succ c1 hi
  unfold charge.Of.body1
  show (if (i : Int) < (e.Val.List_.length : Int) then _ else _) = _
  rw [if_pos (by omega)]
  show need (InB (i : Int) e.Val.List_.length) (some (Sum.inl (⟨IntKind.wrap .i64 (((n0 + sumL c1 (e.Val.List_.take i) : Nat) : Int) + (IntKind.wrap .i64 (16 + ((ix e.Val.List_ (i : Int)).length : Int)))), IntKind.wrap .i64 ((i : Int) + 1)⟩ : charge.Of.S1))) = some (Sum.inl (⟨((n0 + sumL c1 (e.Val.List_.take (i + 1)) : Nat) : Int), ((i + 1 : Nat) : Int)⟩ : charge.Of.S1))
  rw [need_eq ⟨by omega, by omega⟩, ix_get hi]
  generalize sumL c1 (e.Val.List_.take (i + 1)) = B at h1 h2
  generalize sumL c1 (e.Val.List_.take i) = A at h2
  have hB : (B : Int) = A + (c1 e.Val.List_[i] : Nat) := by omega
  unfold c1 at hB h2
  rw [i64w (n := 16 + _) (by omega) (by omega), i64w (by omega) (by omega), i64w (by omega) (by omega)]
  congr 3 <;> omega
 ·unfold charge.Of.body1
  show (if (e.Val.List_.length : Int) < (e.Val.List_.length : Int) then _ else _) = _
  rw [if_neg (by omega), List.take_length]

def c3 (x : Str) : Nat := 24 + x.length
theorem of_loop3 (e : api.Entry) (n0 : Nat) (hb : n0 + sumL c3 e.Val.List_ < 4000000000000000000) (hl : e.Val.List_.length < 1000000000000000) : charge.Of.loop3 e ⟨(n0 : Int), 0⟩ = some ((n0 + sumL c3 e.Val.List_ : Nat) : Int) := by
 unfold charge.Of.loop3
 refine whileO_knownE _ (fun i => (⟨((n0 + sumL c3 (e.Val.List_.take i) : Nat) : Int), (i : Int)⟩ : charge.Of.S3)) e.Val.List_.length (fun i hi => ?_) ?_ (by simp [sumL])
 ·have h1 := sumL_take c3 e.Val.List_ (i + 1)
  have h2 := sumL_succ c3 hi
  unfold charge.Of.body3
  show (if (i : Int) < (e.Val.List_.length : Int) then _ else _) = _
  rw [if_pos (by omega)]
  show need (InB (i : Int) e.Val.List_.length) (some (Sum.inl (⟨IntKind.wrap .i64 (((n0 + sumL c3 (e.Val.List_.take i) : Nat) : Int) + (IntKind.wrap .i64 (24 + ((ix e.Val.List_ (i : Int)).length : Int)))), IntKind.wrap .i64 ((i : Int) + 1)⟩ : charge.Of.S3))) = some (Sum.inl (⟨((n0 + sumL c3 (e.Val.List_.take (i + 1)) : Nat) : Int), ((i + 1 : Nat) : Int)⟩ : charge.Of.S3))
  rw [need_eq ⟨by omega, by omega⟩, ix_get hi]
  generalize sumL c3 (e.Val.List_.take (i + 1)) = B at h1 h2
  generalize sumL c3 (e.Val.List_.take i) = A at h2
  have hB : (B : Int) = A + (c3 e.Val.List_[i] : Nat) := by omega
  unfold c3 at hB h2
  rw [i64w (n := 24 + _) (by omega) (by omega), i64w (by omega) (by omega), i64w (by omega) (by omega)]
  congr 3 <;> omega
 ·unfold charge.Of.body3
  show (if (e.Val.List_.length : Int) < (e.Val.List_.length : Int) then _ else _) = _
  rw [if_neg (by omega), List.take_length]

def c5 (x : api.Field) : Nat := 32 + x.Key.length + x.Val.length
theorem of_loop5 (e : api.Entry) (n0 : Nat) (hb : n0 + sumL c5 e.Val.Hash < 4000000000000000000) (hl : e.Val.Hash.length < 1000000000000000) : charge.Of.loop5 e ⟨(n0 : Int), 0⟩ = some ((n0 + sumL c5 e.Val.Hash : Nat) : Int) := by
 unfold charge.Of.loop5
 refine whileO_knownE _ (fun i => (⟨((n0 + sumL c5 (e.Val.Hash.take i) : Nat) : Int), (i : Int)⟩ : charge.Of.S5)) e.Val.Hash.length (fun i hi => ?_) ?_ (by simp [sumL])
 ·have h1 := sumL_take c5 e.Val.Hash (i + 1)
  have h2 := sumL_succ c5 hi
  unfold charge.Of.body5
  show (if (i : Int) < (e.Val.Hash.length : Int) then _ else _) = _
  rw [if_pos (by omega)]
  show need (InB (i : Int) e.Val.Hash.length) (some (Sum.inl (⟨IntKind.wrap .i64 (((n0 + sumL c5 (e.Val.Hash.take i) : Nat) : Int) + (IntKind.wrap .i64 ((IntKind.wrap .i64 (32 + ((ix e.Val.Hash (i : Int)).Key.length : Int))) + ((ix e.Val.Hash (i : Int)).Val.length : Int)))), IntKind.wrap .i64 ((i : Int) + 1)⟩ : charge.Of.S5))) = some (Sum.inl (⟨((n0 + sumL c5 (e.Val.Hash.take (i + 1)) : Nat) : Int), ((i + 1 : Nat) : Int)⟩ : charge.Of.S5))
  rw [need_eq ⟨by omega, by omega⟩, ix_get hi]
  generalize sumL c5 (e.Val.Hash.take (i + 1)) = B at h1 h2
  generalize sumL c5 (e.Val.Hash.take i) = A at h2
  have hB : (B : Int) = A + (c5 e.Val.Hash[i] : Nat) := by omega
  unfold c5 at hB h2
  rw [i64w (n := 32 + _) (by omega) (by omega), i64w (n := 32 + _ + _) (by omega) (by omega), i64w (by omega) (by omega), i64w (by omega) (by omega)]
  congr 3 <;> omega
 ·unfold charge.Of.body5
  show (if (e.Val.Hash.length : Int) < (e.Val.Hash.length : Int) then _ else _) = _
  rw [if_neg (by omega), List.take_length]

def c7 (x : api.Scored) : Nat := 40 + x.Member.length
theorem of_loop7 (e : api.Entry) (n0 : Nat) (hb : n0 + sumL c7 e.Val.ZSet < 4000000000000000000) (hl : e.Val.ZSet.length < 1000000000000000) : charge.Of.loop7 e ⟨(n0 : Int), 0⟩ = some ((n0 + sumL c7 e.Val.ZSet : Nat) : Int) := by
 unfold charge.Of.loop7
 refine whileO_knownE _ (fun i => (⟨((n0 + sumL c7 (e.Val.ZSet.take i) : Nat) : Int), (i : Int)⟩ : charge.Of.S7)) e.Val.ZSet.length (fun i hi => ?_) ?_ (by simp [sumL])
 ·have h1 := sumL_take c7 e.Val.ZSet (i + 1)
  have h2 := sumL_succ c7 hi
  unfold charge.Of.body7
  show (if (i : Int) < (e.Val.ZSet.length : Int) then _ else _) = _
  rw [if_pos (by omega)]
  show need (InB (i : Int) e.Val.ZSet.length) (some (Sum.inl (⟨IntKind.wrap .i64 (((n0 + sumL c7 (e.Val.ZSet.take i) : Nat) : Int) + (IntKind.wrap .i64 (40 + ((ix e.Val.ZSet (i : Int)).Member.length : Int)))), IntKind.wrap .i64 ((i : Int) + 1)⟩ : charge.Of.S7))) = some (Sum.inl (⟨((n0 + sumL c7 (e.Val.ZSet.take (i + 1)) : Nat) : Int), ((i + 1 : Nat) : Int)⟩ : charge.Of.S7))
  rw [need_eq ⟨by omega, by omega⟩, ix_get hi]
  generalize sumL c7 (e.Val.ZSet.take (i + 1)) = B at h1 h2
  generalize sumL c7 (e.Val.ZSet.take i) = A at h2
  have hB : (B : Int) = A + (c7 e.Val.ZSet[i] : Nat) := by omega
  unfold c7 at hB h2
  rw [i64w (n := 40 + _) (by omega) (by omega), i64w (by omega) (by omega), i64w (by omega) (by omega)]
  congr 3 <;> omega
 ·unfold charge.Of.body7
  show (if (e.Val.ZSet.length : Int) < (e.Val.ZSet.length : Int) then _ else _) = _
  rw [if_neg (by omega), List.take_length]

end Go.Pu
