/- What the program writes: a number's decimal, a request's bytes. -/
import Derived.Test.YtdgbjndkccjijaaUBPuCount1
set_option maxRecDepth 100000
namespace Go.Pu
open Go.Lift

/-! ### A decimal -/
theorem set_drop (vec : List UInt8) (a : Nat) (d : UInt8) (h : a < vec.length) : (vec.set a d).drop a = d :: vec.drop (a + 1) := by
 rw [List.drop_eq_getElem_cons (by simpa using h)]
 simp [List.drop_set_of_lt]

theorem digit_u8 (u : Nat) (h : u < 9223372036854775808) : IntKind.wrap .u8 (IntKind.wrap .u64 (48 + ((u : Int).tmod 10))) = ((48 + u % 10 : Nat) : Int) ∧ u8 (((48 + u % 10 : Nat) : Int)) = UInt8.ofNat (48 + u % 10) := by
 have e : (u : Int).tmod 10 = ((u % 10 : Nat) : Int) := rfl
 rw [e, u64w (by omega) (by omega), u8w (by omega) (by omega)]
 refine ⟨by omega, ?_⟩
 unfold u8
 rw [Int.toNat_natCast]

theorem Text_loop : ∀ (n u a : Nat) (vec : List UInt8), u ≤ n → u < 9223372036854775808 → vec.length = 20 → a ≤ 20 → (dtext u).length ≤ a →
  ∃ (k : Nat) (vec' : List UInt8), num.Text.loop0 ⟨(a : Int), (u : Int), vec⟩ = some ((k : Int), vec') ∧ vec'.length = 20 ∧ k ≤ 20 ∧ vec'.drop k = dtext u ++ vec.drop a := by
 intro n
 induction n with
 | zero =>
  intro u a vec hu hb hv ha hl
  obtain rfl : u = 0 := by omega
  have h1 := (dtext_len 0).1
  have hb : num.Text.body0 ⟨(a : Int), ((0 : Nat) : Int), vec⟩ = some (.inr (((a - 1 : Nat) : Int), vec.set (a - 1) 48)) := by
   unfold num.Text.body0
   have e : ((a : Int) - 1) = ((a - 1 : Nat) : Int) := by omega
   simp only
   rw [e, i64w (by omega) (by omega), (digit_u8 0 (by omega)).1, (digit_u8 0 (by omega)).2]
   rw [need_eq ⟨by omega, by omega⟩, need_eq hv, need_eq ⟨by omega, by rw [hv]; omega⟩, need_eq ⟨by omega, by omega⟩, if_pos (by rfl)]
   rfl
  refine ⟨a - 1, _, whileO_end hb, by simpa using hv, by omega, ?_⟩
  rw [set_drop _ _ _ (by omega), show a - 1 + 1 = a by omega, dtext_small (by omega)]
  rfl
 | succ n ih =>
  intro u a vec hu hb hv ha hl
  have h1 := (dtext_len u).1
  have e : ((a : Int) - 1) = ((a - 1 : Nat) : Int) := by omega
  have hd := digit_u8 u hb
  have hq : (u : Int).tdiv 10 = ((u / 10 : Nat) : Int) := rfl
  by_cases h10 : u < 10
  ·have hbd : num.Text.body0 ⟨(a : Int), (u : Int), vec⟩ = some (.inr (((a - 1 : Nat) : Int), vec.set (a - 1) (UInt8.ofNat (48 + u % 10)))) := by
    unfold num.Text.body0
    simp only
    rw [e, i64w (by omega) (by omega), hd.1, hd.2, hq, u64w (n := ((u / 10 : Nat) : Int)) (by omega) (by omega)]
    rw [need_eq ⟨by omega, by omega⟩, need_eq hv, need_eq ⟨by omega, by rw [hv]; omega⟩, need_eq ⟨by omega, by omega⟩, if_pos (by omega)]
    rfl
   refine ⟨a - 1, _, whileO_end hbd, by simpa using hv, by omega, ?_⟩
   rw [set_drop _ _ _ (by omega), show a - 1 + 1 = a by omega, dtext_small h10, show u % 10 = u by omega]
   rfl
  ·have hbd : num.Text.body0 ⟨(a : Int), (u : Int), vec⟩ = some (.inl ⟨((a - 1 : Nat) : Int), ((u / 10 : Nat) : Int), vec.set (a - 1) (UInt8.ofNat (48 + u % 10))⟩) := by
    unfold num.Text.body0
    simp only
    rw [e, i64w (by omega) (by omega), hd.1, hd.2, hq, u64w (n := ((u / 10 : Nat) : Int)) (by omega) (by omega)]
    rw [need_eq ⟨by omega, by omega⟩, need_eq hv, need_eq ⟨by omega, by rw [hv]; omega⟩, need_eq ⟨by omega, by omega⟩, if_neg (by omega)]
    rfl
   have hle : (dtext u).length = (dtext (u / 10)).length + 1 := by rw [dtext_big h10]; simp
   obtain ⟨k, vec', g1, g2, g3, g4⟩ := ih (u / 10) (a - 1) (vec.set (a - 1) (UInt8.ofNat (48 + u % 10))) (by omega) (by omega) (by simpa using hv) (by omega) (by omega)
   refine ⟨k, vec', whileO_next hbd g1, g2, g3, ?_⟩
   rw [g4, set_drop _ _ _ (by omega), show a - 1 + 1 = a by omega, dtext_big h10]
   simp

theorem Text_eq (v : Nat) (h : v < 9223372036854775808) : num.Text (v : Int) = some (dtext v) := by
 unfold num.Text letO
 rw [if_neg (by omega), u64w (by omega) (by omega)]
 obtain ⟨k, vec', g1, g2, g3, g4⟩ := Text_loop v v 20 (List.replicate 20 (0 : UInt8)) (Nat.le_refl _) h (by simp) (by omega) (by have := dtext_len2 18 v (by omega); omega)
 show (num.Text.loop0 ⟨((20 : Nat) : Int), (v : Int), List.replicate 20 (0 : UInt8)⟩).bind _ = _
 rw [g1]
 simp only [Option.bind_some]
 rw [if_neg (by omega)]
 simp only [Option.bind_some]
 rw [need_eq ⟨by omega, by omega, by omega⟩, need_eq g2, sub_all, Int.toNat_natCast, g4]
 simp

/-! ### A request's bytes -/
theorem lenS_at : ∀ (l : List (List UInt8)) (j : Nat) (hj : j < l.length), l[j].length ≤ lenS l
 | x :: l, 0, _ => by simp [lenS]
 | x :: l, j + 1, hj => by have := lenS_at l j (by simpa using hj); simp only [lenS, List.getElem_cons_succ]; omega
theorem lenS_take : ∀ (l : List (List UInt8)) (j : Nat), lenS (l.take j) ≤ lenS l
 | [], j => by simp [lenS]
 | x :: l, 0 => by simp [lenS]
 | x :: l, j + 1 => by have := lenS_take l j; simp only [lenS, List.take_succ_cons]; omega
theorem dtext7 {v : Nat} (h : v ≤ 1000000) : (dtext v).length ≤ 7 := dtext_len2 6 v (by omega)
theorem putAs_lenB : ∀ (l : List (List UInt8)), lenS l ≤ 1000000 → (putAs l).length ≤ lenS l + 12 * l.length
 | [], _ => by simp [putAs]
 | x :: l, h => by
  simp only [lenS] at h
  have := putAs_lenB l (by omega)
  have := dtext7 (v := x.length) (by omega)
  simp only [putAs, lenS, List.length_append, putA_len, List.length_cons]; omega
theorem putM_lenB (l : List (List UInt8)) (h : lenS l ≤ 1000000) (h2 : l.length ≤ 1000000) : (putM l).length ≤ lenS l + 12 * l.length + 10 := by
 have := putAs_lenB l h
 have := dtext7 h2
 simp [putM]; omega

theorem Put_eq (args : List (List UInt8)) (h : lenS args ≤ 1000000) (hl : args.length ≤ 1000000) : parse.Put args = some (putM args) := by
 have hdl := dtext7 hl
 unfold parse.Put
 rw [Text_eq _ (by omega)]
 simp only [Option.bind_some]
 rw [need_eq (by simp; omega), need_eq (by simp; omega), need_eq (by simp; omega)]
 have hloop : parse.Put.loop0 args ⟨0, ([] : List UInt8) ++ (([42] ++ dtext args.length) ++ [13, 10])⟩ = some (putM args) := by
  unfold parse.Put.loop0
  refine whileO_knownE _ (fun i => (⟨(i : Int), 42 :: (dtext args.length ++ 13 :: 10 :: putAs (args.take i))⟩ : parse.Put.S0)) args.length (fun i hi => ?_) ?_ (by simp [putAs])
  ·have h1 := lenS_at args i hi
   have h2 := dtext7 (v := args[i].length) (by omega)
   have hlt := lenS_take args i
   have hpt := putAs_lenB (args.take i) (by omega)
   have hlk : (args.take i).length ≤ 1000000 := by simp; omega
   unfold parse.Put.body0
   simp only [letO]
   rw [if_pos (by omega), need_eq ⟨by omega, by omega⟩, ix_get hi, Text_eq _ (by omega)]
   simp only [Option.bind_some]
   rw [need_eq (by simp; omega), need_eq (by simp; omega), need_eq (by simp; omega), need_eq (by simp; omega), need_eq (by simp; omega), i64w (by omega) (by omega)]
   rw [List.take_add_one, List.getElem?_eq_getElem hi]
   simp only [Option.toList_some]
   rw [putAs_snoc]
   simp [putA]
  ·unfold parse.Put.body0
   simp only
   rw [if_neg (by omega), List.take_length]
   rfl
 rw [hloop]
 rfl

theorem rPutB_eq (args : List (List UInt8)) (h : lenS args ≤ 1000000) (hl : args.length ≤ 1000000) : mewsref05.Put args = some (putM args) := by
 have hdl := dtext7 hl
 unfold mewsref05.Put
 rw [rText_eq _ (by omega)]
 simp only [Option.bind_some]
 rw [need_eq (by simp; omega), need_eq (by simp; omega)]
 have hloop : mewsref05.Put.loop0 args ⟨([42] ++ dtext args.length) ++ [13, 10], 0⟩ = some (putM args) := by
  unfold mewsref05.Put.loop0
  let st : Nat → mewsref05.Put.S0 := fun i => ⟨([42] ++ dtext args.length) ++ [13, 10] ++ putAs (args.take i), (i : Int)⟩
  refine whileO_knownE _ st args.length (fun i hi => ?_) ?_ (by simp [st, putAs])
  ·have h1 := lenS_at args i hi
   have h2 := dtext7 (v := args[i].length) (by omega)
   have hlt := lenS_take args i
   have hpt := putAs_lenB (args.take i) (by omega)
   have hlk : (args.take i).length ≤ 1000000 := by simp; omega
   unfold mewsref05.Put.body0
   simp only [st, letO]
   rw [if_pos (by omega), need_eq ⟨by omega, by omega⟩, ix_get hi, rText_eq _ (by omega)]
   simp only [Option.bind_some]
   rw [need_eq (by simp; omega), need_eq (by simp; omega), need_eq ⟨by omega, by omega⟩, need_eq (by simp; omega), need_eq (by simp; omega), need_eq (by simp; omega), i64w (by omega) (by omega)]
   rw [List.take_add_one, List.getElem?_eq_getElem hi]
   simp only [Option.toList_some]
   rw [putAs_snoc]
   simp [putA]
  ·unfold mewsref05.Put.body0
   simp only [st]
   rw [if_neg (by omega), List.take_length]
   simp [putM]
 rw [hloop]
 rfl

end Go.Pu
