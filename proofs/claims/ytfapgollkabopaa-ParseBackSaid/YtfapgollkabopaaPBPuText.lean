/- What the program writes: a number's decimal, a request's bytes. -/
import Derived.Test.YtfapgollkabopaaPBPuCount1
set_option maxRecDepth 100000
namespace Go.Pu
open Go.Lift

/-! ### A decimal -/
theorem set_drop (vec : List UInt8) (a : Nat) (d : UInt8) (h : a < vec.length) : (vec.set a d).drop a = d :: vec.drop (a + 1) := by
 rw [List.drop_eq_getElem_cons (by simpa using h)]
 simp [List.drop_set_of_lt]

theorem digit_u8 (u : Nat) (h : u < 9223372036854775808) : IntKind.wrap .u8 (IntKind.wrap .u64 (48 + ((u : Int).tmod 10))) = ((48 + u % 10 : Nat) : Int) ∧ u8 (((48 + u % 10 : Nat) : Int)) = UInt8.ofNat (48 + u % 10) := by
 have e : (u : Int).tmod 10 = ((u % 10 : Nat) : Int) := rfl
 rw [e, u64w (by omega) (by omega), u8w (by omega) (by omega)]
 refine ⟨by omega, ?_⟩
 unfold u8
 rw [Int.toNat_natCast]

theorem Text_loop : ∀ (n u a : Nat) (vec : List UInt8), u ≤ n → u < 9223372036854775808 → vec.length = 20 → a ≤ 20 → (dtext u).length ≤ a →
  ∃ (k : Nat) (vec' : List UInt8), num.Text.loop0 ⟨(a : Int), (u : Int), vec⟩ = some ((k : Int), vec') ∧ vec'.length = 20 ∧ k ≤ 20 ∧ vec'.drop k = dtext u ++ vec.drop a := by
 intro n
 induction n with
 | zero =>
  intro u a vec hu hb hv ha hl
  obtain rfl : u = 0 := by omega
  have h1 := (dtext_len 0).1
  have hb : num.Text.body0 ⟨(a : Int), ((0 : Nat) : Int), vec⟩ = some (.inr (((a - 1 : Nat) : Int), vec.set (a - 1) 48)) := by
   unfold num.Text.body0
   have e : ((a : Int) - 1) = ((a - 1 : Nat) : Int) := by omega
   simp only
   rw [e, i64w (by omega) (by omega), (digit_u8 0 (by omega)).1, (digit_u8 0 (by omega)).2]
   rw [need_eq ⟨by omega, by omega⟩, need_eq hv, need_eq ⟨by omega, by rw [hv]; omega⟩, need_eq ⟨by omega, by omega⟩, if_pos (by rfl)]
   rfl
  refine ⟨a - 1, _, whileO_end hb, by simpa using hv, by omega, ?_⟩
  rw [set_drop _ _ _ (by omega), show a - 1 + 1 = a by omega, dtext_small (by omega)]
  rfl
 | succ n ih =>
  intro u a vec hu hb hv ha hl
  have h1 := (dtext_len u).1
  have e : ((a : Int) - 1) = ((a - 1 : Nat) : Int) := by omega
  have hd := digit_u8 u hb
  have hq : (u : Int).tdiv 10 = ((u / 10 : Nat) : Int) := rfl
  by_cases h10 : u < 10
  ·have hbd : num.Text.body0 ⟨(a : Int), (u : Int), vec⟩ = some (.inr (((a - 1 : Nat) : Int), vec.set (a - 1) (UInt8.ofNat (48 + u % 10)))) := by
    unfold num.Text.body0
    simp only
    rw [e, i64w (by omega) (by omega), hd.1, hd.2, hq, u64w (n := ((u / 10 : Nat) : Int)) (by omega) (by omega)]
    rw [need_eq ⟨by omega, by omega⟩, need_eq hv, need_eq ⟨by omega, by rw [hv]; omega⟩, need_eq ⟨by omega, by omega⟩, if_pos (by omega)]
    rfl
   refine ⟨a - 1, _, whileO_end hbd, by simpa using hv, by omega, ?_⟩
   rw [set_drop _ _ _ (by omega), show a - 1 + 1 = a by omega, dtext_small h10, show u % 10 = u by omega]
   rfl
  ·have hbd : num.Text.body0 ⟨(a : Int), (u : Int), vec⟩ = some (.inl ⟨((a - 1 : Nat) : Int), ((u / 10 : Nat) : Int), vec.set (a - 1) (UInt8.ofNat (48 + u % 10))⟩) := by
    unfold num.Text.body0
    simp only
    rw [e, i64w (by omega) (by omega), hd.1, hd.2, hq, u64w (n := ((u / 10 : Nat) : Int)) (by omega) (by omega)]
    rw [need_eq ⟨by omega, by omega⟩, need_eq hv, need_eq ⟨by omega, by rw [hv]; omega⟩, need_eq ⟨by omega, by omega⟩, if_neg (by omega)]
    rfl
   have hle : (dtext u).length = (dtext (u / 10)).length + 1 := by rw [dtext_big h10]; simp
   obtain ⟨k, vec', g1, g2, g3, g4⟩ := ih (u / 10) (a - 1) (vec.set (a - 1) (UInt8.ofNat (48 + u % 10))) (by omega) (by omega) (by simpa using hv) (by omega) (by omega)
   refine ⟨k, vec', whileO_next hbd g1, g2, g3, ?_⟩
   rw [g4, set_drop _ _ _ (by omega), show a - 1 + 1 = a by omega, dtext_big h10]
   simp

theorem Text_eq (v : Nat) (h : v < 9223372036854775808) : num.Text (v : Int) = some (dtext v) := by
 unfold num.Text letO
 rw [if_neg (by omega), u64w (by omega) (by omega)]
 obtain ⟨k, vec', g1, g2, g3, g4⟩ := Text_loop v v 20 (List.replicate 20 (0 : UInt8)) (Nat.le_refl _) h (by simp) (by omega) (by have := dtext_len2 18 v (by omega); omega)
 show (num.Text.loop0 ⟨((20 : Nat) : Int), (v : Int), List.replicate 20 (0 : UInt8)⟩).bind _ = _
 rw [g1]
 simp only [Option.bind_some]
 rw [if_neg (by omega)]
 simp only [Option.bind_some]
 rw [need_eq ⟨by omega, by omega, by omega⟩, need_eq g2, sub_all, Int.toNat_natCast, g4]
 simp

/-! ### A request's bytes -/
theorem Put_eq (args : List (List UInt8)) (h : lenS args ≤ 10000) (hl : args.length ≤ 10000) : parse.Put args = some (putM args) := by
 have hd : ∀ v : Nat, v ≤ 10000 → (dtext v).length ≤ 5 := fun v hv => dtext_len2 4 v (by omega)
 have hdl := hd args.length hl
 unfold parse.Put
 rw [Text_eq _ (by omega)]
 simp only [Option.bind_some]
 rw [need_eq (by simp; omega), need_eq (by simp; omega), need_eq (by simp; omega)]
 have hloop : parse.Put.loop0 args ⟨0, ([] : List UInt8) ++ (([42] ++ dtext args.length) ++ [13, 10])⟩ = some (putM args) := by
  unfold parse.Put.loop0
  refine whileO_knownE _ (fun i => (⟨(i : Int), 42 :: (dtext args.length ++ 13 :: 10 :: putAs (args.take i))⟩ : parse.Put.S0)) args.length (fun i hi => ?_) ?_ (by simp [putAs])
  ·have hle : ∀ (l : List (List UInt8)) (j : Nat) (hj : j < l.length), l[j].length ≤ lenS l := by
    intro l
    induction l with
    | nil => intro j hj; simp at hj
    | cons x l ih =>
     intro j hj
     cases j with
     | zero => simp [lenS]
     | succ j => have := ih j (by simpa using hj); simp only [lenS, List.getElem_cons_succ]; omega
   have h1 := hle args i hi
   have h2 := hd args[i].length (by omega)
   have hpl : ∀ (l : List (List UInt8)), lenS l ≤ 10000 → (putAs l).length ≤ lenS l + 10 * l.length := by
    intro l
    induction l with
    | nil => intro _; simp [putAs, lenS]
    | cons x l ih =>
     intro hb
     simp only [lenS] at hb
     have := ih (by omega)
     have := hd x.length (by omega)
     simp only [putAs, lenS, List.length_append, putA_len, List.length_cons]; omega
   have hpt := hpl (args.take i) (by
    have : ∀ (l : List (List UInt8)) (j : Nat), lenS (l.take j) ≤ lenS l := by
     intro l
     induction l with
     | nil => intro j; simp [lenS]
     | cons x l ih => intro j; cases j <;> simp [lenS]; exact ih _
    have := this args i; omega)
   have hlt : lenS (args.take i) ≤ 10000 := by
    have : ∀ (l : List (List UInt8)) (j : Nat), lenS (l.take j) ≤ lenS l := by
     intro l
     induction l with
     | nil => intro j; simp [lenS]
     | cons x l ih => intro j; cases j <;> simp [lenS]; exact ih _
    have := this args i; omega
   have hlk : (args.take i).length ≤ 10000 := by simp; omega
   unfold parse.Put.body0
   simp only [letO]
   rw [if_pos (by omega), need_eq ⟨by omega, by omega⟩, ix_get hi, Text_eq _ (by omega)]
   simp only [Option.bind_some]
   rw [need_eq (by simp; omega), need_eq (by simp; omega), need_eq (by simp; omega), need_eq (by simp; omega), need_eq (by simp; omega), i64w (by omega) (by omega)]
   rw [List.take_add_one, List.getElem?_eq_getElem hi]
   simp only [Option.toList_some]
   rw [putAs_snoc]
   simp [putA]
  ·unfold parse.Put.body0
   simp only
   rw [if_neg (by omega), List.take_length]
   rfl
 rw [hloop]
 rfl

end Go.Pu
