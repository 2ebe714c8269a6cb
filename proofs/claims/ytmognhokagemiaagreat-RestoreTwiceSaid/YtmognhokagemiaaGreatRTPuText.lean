import Derived.Test.YtmognhokagemiaaGreatRTPuStream
import Derived.Test.YtmognhokagemiaaGreatRTPuBase
import Derived.Test.YtmognhokagemiaaGreatRTP
set_option maxRecDepth 100000
namespace Go.Pu
open Go.Lift

/-! ### A decimal -/
theorem set_drop (vec : List UInt8) (a : Nat) (d : UInt8) (h : a < vec.length) : (vec.set a d).drop a = d :: vec.drop (a + 1) := by
 rw [List.drop_eq_getElem_cons (by simpa using h)]
 simp [List.drop_set_of_lt]

theorem digit_u8 (u : Nat) (h : u < 9223372036854775808) : IntKind.wrap .u8 (IntKind.wrap .u64 (48 + ((u : Int).tmod 10))) = ((48 + u % 10 : Nat) : Int) ∧ u8 (((48 + u % 10 : Nat) : Int)) = UInt8.ofNat (48 + u % 10) := by
 have e : (u : Int).tmod 10 = ((u % 10 : Nat) : Int) := rfl
 rw [e, u64w (by omega) (by omega), u8w (by omega) (by omega)]
 refine ⟨by omega, ?_⟩
 unfold u8
 rw [Int.toNat_natCast]

theorem Text_loop : ∀ (n u a : Nat) (vec : List UInt8), u ≤ n → u < 9223372036854775808 → vec.length = 20 → a ≤ 20 → (dtext u).length ≤ a →
  ∃ (k : Nat) (vec' : List UInt8), num.Text.loop0 ⟨(a : Int), (u : Int), vec⟩ = some ((k : Int), vec') ∧ vec'.length = 20 ∧ k ≤ 20 ∧ vec'.drop k = dtext u ++ vec.drop a := by
 intro n
 induction n with
 | zero =>
  intro u a vec hu hb hv ha hl
  obtain rfl : u = 0 := by omega
  have h1 := (dtext_len 0).1
  have hb : num.Text.body0 ⟨(a : Int), ((0 : Nat) : Int), vec⟩ = some (.inr (((a - 1 : Nat) : Int), vec.set (a - 1) 48)) := by
   unfold num.Text.body0
   have e : ((a : Int) - 1) = ((a - 1 : Nat) : Int) := by omega
   simp only
   rw [e, i64w (by omega) (by omega), (digit_u8 0 (by omega)).1, (digit_u8 0 (by omega)).2]
   rw [need_eq ⟨by omega, by omega⟩, need_eq hv, need_eq ⟨by omega, by rw [hv]; omega⟩, need_eq ⟨by omega, by omega⟩, if_pos (by rfl)]
   rfl
  refine ⟨a - 1, _, whileO_end hb, by simpa using hv, by omega, ?_⟩
  rw [set_drop _ _ _ (by omega), show a - 1 + 1 = a by omega, dtext_small (by omega)]
  rfl
 | succ n ih =>
  intro u a vec hu hb hv ha hl
  have h1 := (dtext_len u).1
  have e : ((a : Int) - 1) = ((a - 1 : Nat) : Int) := by omega
  have hd := digit_u8 u hb
  have hq : (u : Int).tdiv 10 = ((u / 10 : Nat) : Int) := rfl
  by_cases h10 : u < 10
  ·have hbd : num.Text.body0 ⟨(a : Int), (u : Int), vec⟩ = some (.inr (((a - 1 : Nat) : Int), vec.set (a - 1) (UInt8.ofNat (48 + u % 10)))) := by
    unfold num.Text.body0
    simp only
    rw [e, i64w (by omega) (by omega), hd.1, hd.2, hq, u64w (n := ((u / 10 : Nat) : Int)) (by omega) (by omega)]
    rw [need_eq ⟨by omega, by omega⟩, need_eq hv, need_eq ⟨by omega, by rw [hv]; omega⟩, need_eq ⟨by omega, by omega⟩, if_pos (by omega)]
    rfl
   refine ⟨a - 1, _, whileO_end hbd, by simpa using hv, by omega, ?_⟩
   rw [set_drop _ _ _ (by omega), show a - 1 + 1 = a by omega, dtext_small h10, show u % 10 = u by omega]
   rfl
  ·have hbd : num.Text.body0 ⟨(a : Int), (u : Int), vec⟩ = some (.inl ⟨((a - 1 : Nat) : Int), ((u / 10 : Nat) : Int), vec.set (a - 1) (UInt8.ofNat (48 + u % 10))⟩) := by
    unfold num.Text.body0
    simp only
    rw [e, i64w (by omega) (by omega), hd.1, hd.2, hq, u64w (n := ((u / 10 : Nat) : Int)) (by omega) (by omega)]
    rw [need_eq ⟨by omega, by omega⟩, need_eq hv, need_eq ⟨by omega, by rw [hv]; omega⟩, need_eq ⟨by omega, by omega⟩, if_neg (by omega)]
    rfl
   have hle : (dtext u).length = (dtext (u / 10)).length + 1 := by rw [dtext_big h10]; simp
   obtain ⟨k, vec', g1, g2, g3, g4⟩ := ih (u / 10) (a - 1) (vec.set (a - 1) (UInt8.ofNat (48 + u % 10))) (by omega) (by omega) (by simpa using hv) (by omega) (by omega)
   refine ⟨k, vec', whileO_next hbd g1, g2, g3, ?_⟩
   rw [g4, set_drop _ _ _ (by omega), show a - 1 + 1 = a by omega, dtext_big h10]
   simp

theorem Text_eq (v : Nat) (h : v < 9223372036854775808) : num.Text (v : Int) = some (dtext v) := by
 unfold num.Text letO
 rw [if_neg (by omega), u64w (by omega) (by omega)]
 obtain ⟨k, vec', g1, g2, g3, g4⟩ := Text_loop v v 20 (List.replicate 20 (0 : UInt8)) (Nat.le_refl _) h (by simp) (by omega) (by have := dtext_len2 18 v (by omega); omega)
 show (num.Text.loop0 ⟨((20 : Nat) : Int), (v : Int), List.replicate 20 (0 : UInt8)⟩).bind _ = _
 rw [g1]
 simp only [Option.bind_some]
 rw [if_neg (by omega)]
 simp only [Option.bind_some]
 rw [need_eq ⟨by omega, by omega, by omega⟩, need_eq g2, sub_all, Int.toNat_natCast, g4]
 simp

/-! ### A request's bytes -/
theorem lenS_at : ∀ (l : List (List UInt8)) (j : Nat) (hj : j < l.length), l[j].length ≤ lenS l
 | x :: l, 0, _ => by simp [lenS]
 | x :: l, j + 1, hj => by have := lenS_at l j (by simpa using hj); simp only [lenS, List.getElem_cons_succ]; omega
theorem lenS_take : ∀ (l : List (List UInt8)) (j : Nat), lenS (l.take j) ≤ lenS l
 | [], j => by simp [lenS]
 | x :: l, 0 => by simp [lenS]
 | x :: l, j + 1 => by have := lenS_take l j; simp only [lenS, List.take_succ_cons]; omega
theorem dtext7 {v : Nat} (h : v ≤ 1000000) : (dtext v).length ≤ 7 := dtext_len2 6 v (by omega)
theorem putAs_lenB : ∀ (l : List (List UInt8)), lenS l ≤ 1000000 → (putAs l).length ≤ lenS l + 12 * l.length
 | [], _ => by simp [putAs]
 | x :: l, h => by
  simp only [lenS] at h
  have := putAs_lenB l (by omega)
  have := dtext7 (v := x.length) (by omega)
  simp only [putAs, lenS, List.length_append, putA_len, List.length_cons]; omega
theorem putM_lenB (l : List (List UInt8)) (h : lenS l ≤ 1000000) (h2 : l.length ≤ 1000000) : (putM l).length ≤ lenS l + 12 * l.length + 10 := by
 have := putAs_lenB l h
 have := dtext7 h2
 simp [putM]; omega

theorem Put_eq (args : List (List UInt8)) (h : lenS args ≤ 1000000) (hl : args.length ≤ 1000000) : parse.Put args = some (putM args) := by
 have hdl := dtext7 hl
 unfold parse.Put
 rw [Text_eq _ (by omega)]
 simp only [Option.bind_some]
 rw [need_eq (by simp; omega), need_eq (by simp; omega), need_eq (by simp; omega)]
 have hloop : parse.Put.loop0 args ⟨0, ([] : List UInt8) ++ (([42] ++ dtext args.length) ++ [13, 10])⟩ = some (putM args) := by
  unfold parse.Put.loop0
  refine whileO_knownE _ (fun i => (⟨(i : Int), 42 :: (dtext args.length ++ 13 :: 10 :: putAs (args.take i))⟩ : parse.Put.S0)) args.length (fun i hi => ?_) ?_ (by simp [putAs])
  ·have h1 := lenS_at args i hi
   have h2 := dtext7 (v := args[i].length) (by omega)
   have hlt := lenS_take args i
   have hpt := putAs_lenB (args.take i) (by omega)
   have hlk : (args.take i).length ≤ 1000000 := by simp; omega
   unfold parse.Put.body0
   simp only [letO]
   rw [if_pos (by omega), need_eq ⟨by omega, by omega⟩, ix_get hi, Text_eq _ (by omega)]
   simp only [Option.bind_some]
   rw [need_eq (by simp; omega), need_eq (by simp; omega), need_eq (by simp; omega), need_eq (by simp; omega), need_eq (by simp; omega), i64w (by omega) (by omega)]
   rw [List.take_add_one, List.getElem?_eq_getElem hi]
   simp only [Option.toList_some]
   rw [putAs_snoc]
   simp [putA]
  ·unfold parse.Put.body0
   simp only
   rw [if_neg (by omega), List.take_length]
   rfl
 rw [hloop]
 rfl

theorem rPutB_eq (args : List (List UInt8)) (h : lenS args ≤ 1000000) (hl : args.length ≤ 1000000) : mewsref05.Put args = some (putM args) := by
 have hdl := dtext7 hl
 unfold mewsref05.Put
 rw [rText_eq _ (by omega)]
 simp only [Option.bind_some]
 rw [need_eq (by simp; omega), need_eq (by simp; omega)]
 have hloop : mewsref05.Put.loop0 args ⟨([42] ++ dtext args.length) ++ [13, 10], 0⟩ = some (putM args) := by
  unfold mewsref05.Put.loop0
  let st : Nat → mewsref05.Put.S0 := fun i => ⟨([42] ++ dtext args.length) ++ [13, 10] ++ putAs (args.take i), (i : Int)⟩
  refine whileO_knownE _ st args.length (fun i hi => ?_) ?_ (by simp [st, putAs])
  ·have h1 := lenS_at args i hi
   have h2 := dtext7 (v := args[i].length) (by omega)
   have hlt := lenS_take args i
   have hpt := putAs_lenB (args.take i) (by omega)
   have hlk : (args.take i).length ≤ 1000000 := by simp; omega
   unfold mewsref05.Put.body0
   simp only [st, letO]
   rw [if_pos (by omega), need_eq ⟨by omega, by omega⟩, ix_get hi, rText_eq _ (by omega)]
   simp only [Option.bind_some]
   rw [need_eq (by simp; omega), need_eq (by simp; omega), need_eq ⟨by omega, by omega⟩, need_eq (by simp; omega), need_eq (by simp; omega), need_eq (by simp; omega), i64w (by omega) (by omega)]
   rw [List.take_add_one, List.getElem?_eq_getElem hi]
   simp only [Option.toList_some]
   rw [putAs_snoc]
   simp [putA]
  ·unfold mewsref05.Put.body0
   simp only [st]
   rw [if_neg (by omega), List.take_length]
   simp [putM]
 rw [hloop]
 rfl

end Go.Pu

set_option maxRecDepth 100000
namespace Go.Pu
open Go.Lift

/-- A loop with something that gets less. -/
theorem whileO_less {σ ρ : Type} {body : σ → Option (σ ⊕ ρ)} (st : σ → Prop) (μ : σ → Nat) (Q : ρ → Prop)
  (h : ∀ s, st s → (∃ s', body s = some (.inl s') ∧ st s' ∧ μ s' < μ s) ∨ (∃ r, body s = some (.inr r) ∧ Q r)) (s : σ) (h0 : st s) : ∃ r, whileO body s = some r ∧ Q r := by
 have : ∀ n s, μ s ≤ n → st s → ∃ r, whileO body s = some r ∧ Q r := by
  intro n
  induction n with
  | zero =>
   intro s hn hs
   rcases h s hs with ⟨s', _, _, h3⟩ | ⟨r, h1, h2⟩
   ·omega
   ·exact ⟨r, whileO_end h1, h2⟩
  | succ n ih =>
   intro s hn hs
   rcases h s hs with ⟨s', h1, h2, h3⟩ | ⟨r, h1, h2⟩
   ·obtain ⟨r, h4, h5⟩ := ih s' (by omega) h2
    exact ⟨r, whileO_next h1 h4, h5⟩
   ·exact ⟨r, whileO_end h1, h2⟩
 exact this (μ s) s (Nat.le_refl _) h0

def putL : List (List (List UInt8)) → List UInt8
 | [] => []
 | a :: l => putM a ++ putL l
theorem putL_snoc (l : List (List (List UInt8))) (x : List (List UInt8)) : putL (l ++ [x]) = putL l ++ putM x := by
 induction l with
 | nil => simp [putL]
 | cons y l ih => simp [putL, ih]
/-- Bytes of requests with no arguments. -/
def noneN : List (List (List UInt8)) → Nat
 | [] => 0
 | a :: l => (if a = [] then 4 else 0) + noneN l
theorem noneN_snoc (l : List (List (List UInt8))) (x : List (List UInt8)) : noneN (l ++ [x]) = noneN l + (if x = [] then 4 else 0) := by
 induction l with
 | nil => simp [noneN]
 | cons y l ih => simp [noneN, ih]; omega
theorem putM_nil : (putM []).length = 4 := by
 have : dtext 0 = [48] := by rw [dtext_small (by omega)]; rfl
 simp [putM, putAs, this]
def sizeN : List api.Request → Int
 | [] => 0
 | r :: l => r.Size + sizeN l
theorem sizeN_append (a b : List api.Request) : sizeN (a ++ b) = sizeN a + sizeN b := by
 induction a with
 | nil => simp [sizeN]
 | cons x a ih => simp [sizeN, ih]; omega

/-- All that was put is found, or the stream ends. -/
theorem run_putL (l : api.Limits) (hl : GoodL l) : ∀ (ls : List (List (List UInt8))) (out : List api.Request), PInv (freshP (putL ls) l out) →
  (∃ more, runP (freshP (putL ls) l out) = freshP [] l (out ++ more) ∧ (noneN ls : Int) + sizeN more = ((putL ls).length : Int) ∧ (∀ r ∈ more, 1 ≤ r.Args.length ∧ (r.Args.length : Int) ≤ l.Args ∧ 0 ≤ r.Size) ∧ more.length ≤ ls.length) ∨
  (∃ more e, (e = 5 ∨ e = 6 ∨ e = 7 ∨ e = 16) ∧ runP (freshP (putL ls) l out) = deadP (freshP [] l (out ++ more)) e ∧ more.length ≤ ls.length)
 | [], out, h => by
  left
  refine ⟨[], ?_, rfl, by simp, by simp⟩
  rw [List.append_nil]
  rw [runP_stop]
  ·rfl
  ·rfl
 | a :: ls, out, h => by
  rcases run_put l hl out (putL ls) a h with ⟨h1, h2, h3⟩ | ⟨e, h1, h2, _⟩
  ·have ih := run_putL l hl ls _ h3
   by_cases ha : a = []
   ·rw [if_pos ha] at h2 h3 ih
    rcases ih with ⟨more, g1, g2, g3, g4⟩ | ⟨more, e, g1, g2, g3⟩
    ·left
     refine ⟨more, h2.trans g1, ?_, g3, by simp; omega⟩
     simp only [noneN, if_pos ha, putL, List.length_append]
     rw [ha, putM_nil]
     omega
    ·right
     exact ⟨more, e, g1, h2.trans g2, by simp; omega⟩
   ·rw [if_neg ha] at h2 h3 ih
    rcases ih with ⟨more, g1, g2, g3, g4⟩ | ⟨more, e, g1, g2, g3⟩
    ·left
     refine ⟨({ Args := a, Size := ((putM a).length : Int) } : api.Request) :: more, h2.trans (by rw [g1]; simp), ?_, ?_, by simp; omega⟩
     ·simp only [noneN, if_neg ha, putL, List.length_append, sizeN]
      omega
     ·intro r hr
      rcases List.mem_cons.1 hr with rfl | hr
      ·refine ⟨?_, h1, by simp⟩
       cases a with
       | nil => exact absurd rfl ha
       | cons x a => simp
      ·exact g3 r hr
    ·right
     refine ⟨({ Args := a, Size := ((putM a).length : Int) } : api.Request) :: more, e, g1, h2.trans (by rw [g2]; simp), by simp; omega⟩
  ·right
   exact ⟨[], e, h1, by rw [List.append_nil]; exact h2, by simp⟩

end Go.Pu

set_option maxRecDepth 100000
namespace Go.Pu
open Go.Lift

theorem u32_xor (a b : Nat) (ha : a < 4294967296) (hb : b < 4294967296) : Go.bits .xor .u32 (a : Int) (b : Int) = ((a ^^^ b : Nat) : Int) := by
 have hx : a ^^^ b < 2 ^ 32 := Nat.xor_lt_two_pow (by omega) (by omega)
 have h1 : (BitVec.ofInt 32 (a : Int)).toNat = a := by
  rw [BitVec.ofInt_natCast, BitVec.toNat_ofNat]; exact Nat.mod_eq_of_lt (by omega)
 have h2 : (BitVec.ofInt 32 (b : Int)).toNat = b := by
  rw [BitVec.ofInt_natCast, BitVec.toNat_ofNat]; exact Nat.mod_eq_of_lt (by omega)
 show IntKind.u32.wrap ((BitVec.ofInt 32 (a : Int) ^^^ BitVec.ofInt 32 (b : Int)).toNat : Int) = _
 rw [BitVec.toNat_xor, h1, h2, u32w (by omega) (by omega)]

theorem u32_and (a b : Nat) (ha : a < 4294967296) (hb : b < 4294967296) : Go.bits .and .u32 (a : Int) (b : Int) = ((a &&& b : Nat) : Int) := by
 have hx : a &&& b < 2 ^ 32 := Nat.and_lt_two_pow _ (by omega)
 have h1 : (BitVec.ofInt 32 (a : Int)).toNat = a := by
  rw [BitVec.ofInt_natCast, BitVec.toNat_ofNat]; exact Nat.mod_eq_of_lt (by omega)
 have h2 : (BitVec.ofInt 32 (b : Int)).toNat = b := by
  rw [BitVec.ofInt_natCast, BitVec.toNat_ofNat]; exact Nat.mod_eq_of_lt (by omega)
 show IntKind.u32.wrap ((BitVec.ofInt 32 (a : Int) &&& BitVec.ofInt 32 (b : Int)).toNat : Int) = _
 rw [BitVec.toNat_and, h1, h2, u32w (by omega) (by omega)]

def polyN : Nat := 3988292384
def stepN (n : Nat) : Nat := (n / 2) ^^^ (if n % 2 = 1 then polyN else 0)
def stepsN : Nat → Nat → Nat
 | 0, n => n
 | k + 1, n => stepN (stepsN k n)
def byteN (n b : Nat) : Nat := stepsN 8 (n ^^^ b)
def moreN (n : Nat) (s : List UInt8) : Nat := s.foldl (fun n b => byteN n b.toNat) n
def ofN (s : List UInt8) : Nat := moreN 4294967295 s ^^^ 4294967295
def le4 (n : Nat) : List UInt8 := [UInt8.ofNat n, UInt8.ofNat (n / 256), UInt8.ofNat (n / 65536), UInt8.ofNat (n / 16777216)]
def sealN (s : List UInt8) : List UInt8 := s ++ le4 (ofN s)

theorem stepN_lt {n : Nat} (h : n < 4294967296) : stepN n < 4294967296 := by
 unfold stepN polyN
 have : (n / 2) ^^^ (if n % 2 = 1 then 3988292384 else 0) < 2 ^ 32 := Nat.xor_lt_two_pow (by omega) (by split <;> omega)
 simpa using this
theorem stepsN_lt {n : Nat} (h : n < 4294967296) : ∀ k, stepsN k n < 4294967296
 | 0 => h
 | k + 1 => stepN_lt (stepsN_lt h k)
theorem byteN_lt {n b : Nat} (h : n < 4294967296) (hb : b < 256) : byteN n b < 4294967296 := by
 refine stepsN_lt ?_ 8
 have : n ^^^ b < 2 ^ 32 := Nat.xor_lt_two_pow (by omega) (by omega)
 simpa using this
theorem moreN_lt : ∀ (s : List UInt8) {n : Nat}, n < 4294967296 → moreN n s < 4294967296
 | [], n, h => h
 | b :: s, n, h => moreN_lt s (n := byteN n b.toNat) (byteN_lt h b.toNat_lt)
theorem ofN_lt (s : List UInt8) : ofN s < 4294967296 := by
 have : ofN s < 2 ^ 32 := Nat.xor_lt_two_pow (by simpa using moreN_lt s (n := 4294967295) (by omega)) (by omega)
 simpa using this
theorem moreN_snoc (n : Nat) (s : List UInt8) (b : UInt8) : moreN n (s ++ [b]) = byteN (moreN n s) b.toNat := by simp [moreN, List.foldl_append]
theorem moreN_append (n : Nat) (s t : List UInt8) : moreN n (s ++ t) = moreN (moreN n s) t := by simp [moreN, List.foldl_append]
theorem sealN_len (s : List UInt8) : (sealN s).length = s.length + 4 := by simp [sealN, le4]

theorem u8_wrap (n : Nat) : u8 (IntKind.wrap .u8 (n : Int)) = UInt8.ofNat n := by
 have e : IntKind.wrap .u8 (n : Int) = ((n % 256 : Nat) : Int) := by
  simp [IntKind.wrap, IntKind.bits, IntKind.signed]
 rw [e]
 unfold u8
 rw [Int.toNat_natCast]
 apply UInt8.toNat_inj.1
 simp
theorem u8_wrap_ok (n : Int) : IsU8 (IntKind.wrap .u8 n) := by
 simp [IntKind.wrap, IntKind.bits, IntKind.signed]; omega

/-! ### The program's -/
theorem stepGo (n : Nat) (h : n < 4294967296) :
  Go.bits .xor .u32 ((n : Int) / 2 ^ min (Int.toNat 1) (IntKind.bits .u32)) (Go.bits .and .u32 3988292384 (IntKind.wrap .u32 (0 - (Go.bits .and .u32 (n : Int) 1)))) = ((stepN n : Nat) : Int) := by
 have h1 : Go.bits .and .u32 (n : Int) 1 = ((n % 2 : Nat) : Int) := by
  have := u32_and n 1 h (by omega)
  rw [Nat.and_one_is_mod] at this
  exact this
 have hd : ((n : Int) / 2 ^ min (Int.toNat 1) (IntKind.bits .u32)) = ((n / 2 : Nat) : Int) := by
  have : ((2 : Int) ^ min (Int.toNat 1) (IntKind.bits .u32)) = 2 := rfl
  rw [this]; omega
 rw [h1, hd]
 unfold stepN polyN
 rcases Nat.mod_two_eq_zero_or_one n with h2 | h2
 ·rw [h2, if_neg (by omega)]
  have : IntKind.wrap .u32 (0 - ((0 : Nat) : Int)) = ((0 : Nat) : Int) := rfl
  rw [this]
  have h3 := u32_and 3988292384 0 (by omega) (by omega)
  rw [show (3988292384 : Int) = ((3988292384 : Nat) : Int) from rfl, h3, Nat.and_zero]
  exact u32_xor (n / 2) 0 (by omega) (by omega)
 ·rw [h2, if_pos rfl]
  have : IntKind.wrap .u32 (0 - ((1 : Nat) : Int)) = ((4294967295 : Nat) : Int) := rfl
  rw [this]
  have h3 := u32_and 3988292384 4294967295 (by omega) (by omega)
  rw [show (3988292384 : Int) = ((3988292384 : Nat) : Int) from rfl, h3]
  have h4 : 3988292384 &&& 4294967295 = 3988292384 := by decide
  rw [h4]
  exact u32_xor (n / 2) 3988292384 (by omega) (by omega)

theorem xor_byte {n b : Nat} (h : n < 4294967296) (hb : b < 256) : n ^^^ b < 4294967296 := by
 have : n ^^^ b < 2 ^ 32 := Nat.xor_lt_two_pow (by omega) (by omega)
 simpa using this

theorem cByte_eq (n b : Nat) (h : n < 4294967296) (hb : b < 256) : crc.Byte (n : Int) (b : Int) = some ((byteN n b : Nat) : Int) := by
 unfold crc.Byte
 rw [u32w (n := (b : Int)) (by omega) (by omega), u32_xor n b h (by omega)]
 have hx := xor_byte h hb
 have : crc.Byte.loop0 ⟨((n ^^^ b : Nat) : Int), 0⟩ = some ((byteN n b : Nat) : Int) := by
  unfold crc.Byte.loop0
  refine whileO_knownE _ (fun i => (⟨((stepsN i (n ^^^ b) : Nat) : Int), (i : Int)⟩ : crc.Byte.S0)) 8 (fun i hi => ?_) ?_ rfl
  ·unfold crc.Byte.body0
   simp only
   rw [if_pos (by omega), stepGo _ (stepsN_lt hx i), i64w (by omega) (by omega)]
   rfl
  ·unfold crc.Byte.body0
   simp only
   rw [if_neg (by omega)]
   rfl
 rw [this]
 rfl

theorem rByte_eq (n b : Nat) (h : n < 4294967296) (hb : b < 256) : mewsref14.Byte (n : Int) (b : Int) = some ((byteN n b : Nat) : Int) := by
 unfold mewsref14.Byte
 rw [u32w (n := (b : Int)) (by omega) (by omega), u32_xor n b h (by omega)]
 have hx := xor_byte h hb
 have : mewsref14.Byte.loop0 ⟨((n ^^^ b : Nat) : Int), 0⟩ = some ((byteN n b : Nat) : Int) := by
  unfold mewsref14.Byte.loop0
  refine whileO_knownE _ (fun i => (⟨((stepsN i (n ^^^ b) : Nat) : Int), (i : Int)⟩ : mewsref14.Byte.S0)) 8 (fun i hi => ?_) ?_ rfl
  ·unfold mewsref14.Byte.body0
   simp only
   have hlt := stepsN_lt hx i
   generalize hm : stepsN i (n ^^^ b) = m at hlt
   have ht : (m : Int).tdiv 2 = ((m / 2 : Nat) : Int) := rfl
   have hmd : (m : Int).tmod 2 = ((m % 2 : Nat) : Int) := rfl
   rw [if_pos (by omega), i64w (by omega) (by omega), ht, hmd, u32w (by omega) (by omega)]
   have hs : stepsN (i + 1) (n ^^^ b) = stepN m := by rw [← hm]; rfl
   rw [hs]
   unfold stepN polyN letO
   rcases Nat.mod_two_eq_zero_or_one m with h2 | h2
   ·rw [h2, if_neg (by omega), if_neg (by omega), Nat.xor_zero]; rfl
   ·rw [h2, if_pos rfl, if_pos (by rfl)]
    have := u32_xor (m / 2) 3988292384 (by omega) (by omega)
    rw [show (3988292384 : Int) = ((3988292384 : Nat) : Int) from rfl, this]; rfl
  ·unfold mewsref14.Byte.body0
   simp only
   rw [if_neg (by omega)]
   rfl
 rw [this]
 rfl

theorem cMore_eq (n : Nat) (s : List UInt8) (h : n < 4294967296) (hs : s.length ≤ 1000000000) : crc.More (n : Int) s = some ((moreN n s : Nat) : Int) := by
 unfold crc.More
 have : crc.More.loop0 s ⟨(n : Int), 0⟩ = some ((moreN n s : Nat) : Int) := by
  unfold crc.More.loop0
  refine whileO_knownE _ (fun i => (⟨((moreN n (s.take i) : Nat) : Int), (i : Int)⟩ : crc.More.S0)) s.length (fun i hi => ?_) ?_ (by simp [moreN])
  ·unfold crc.More.body0
   simp only
   rw [if_pos (by omega), need_eq ⟨by omega, by omega⟩, bix_get' hi, cByte_eq _ _ (moreN_lt _ h) (UInt8.toNat_lt _)]
   simp only [Option.bind_some]
   rw [i64w (by omega) (by omega), List.take_add_one, List.getElem?_eq_getElem hi]
   simp only [Option.toList_some]
   rw [moreN_snoc]; rfl
  ·unfold crc.More.body0
   simp only
   rw [if_neg (by omega), List.take_length]
 rw [this]
 rfl

theorem rMore_eq (n : Nat) (s : List UInt8) (h : n < 4294967296) (hs : s.length ≤ 1000000000) : mewsref14.More (n : Int) s = some ((moreN n s : Nat) : Int) := by
 unfold mewsref14.More
 have : mewsref14.More.loop0 s ⟨(n : Int), 0⟩ = some ((moreN n s : Nat) : Int) := by
  unfold mewsref14.More.loop0
  refine whileO_knownE _ (fun i => (⟨((moreN n (s.take i) : Nat) : Int), (i : Int)⟩ : mewsref14.More.S0)) s.length (fun i hi => ?_) ?_ (by simp [moreN])
  ·unfold mewsref14.More.body0
   simp only
   rw [if_pos (by omega), need_eq ⟨by omega, by omega⟩, bix_get' hi, rByte_eq _ _ (moreN_lt _ h) (UInt8.toNat_lt _)]
   simp only [Option.bind_some]
   rw [i64w (by omega) (by omega), List.take_add_one, List.getElem?_eq_getElem hi]
   simp only [Option.toList_some]
   rw [moreN_snoc]; rfl
  ·unfold mewsref14.More.body0
   simp only
   rw [if_neg (by omega), List.take_length]
 rw [this]
 rfl

theorem cSeal_eq (s : List UInt8) (hs : s.length ≤ 1000000000) : crc.Seal s = some (sealN s) := by
 unfold crc.Seal crc.Of
 have hm := moreN_lt s (n := 4294967295) (by omega)
 have : crc.Of.loop0 [s] ⟨4294967295, 0⟩ = some ((moreN 4294967295 s : Nat) : Int) := by
  unfold crc.Of.loop0
  refine whileO_knownE _ (fun i => (⟨((if i = 0 then 4294967295 else moreN 4294967295 s : Nat) : Int), (i : Int)⟩ : crc.Of.S0)) 1 (fun i hi => ?_) ?_ rfl
  ·obtain rfl : i = 0 := by omega
   unfold crc.Of.body0
   simp only
   rw [if_pos (by simp), need_eq ⟨by omega, by simp⟩]
   have := cMore_eq 4294967295 s (by omega) hs
   rw [show ix [s] ((0 : Nat) : Int) = s from rfl]
   simp only [if_true]
   rw [this]
   rfl
  ·unfold crc.Of.body0
   simp
 rw [this]
 simp only [Option.bind_some]
 have hx : Go.bits .xor .u32 (if IntKind.signed .u32 then -1 else IntKind.max .u32) ((moreN 4294967295 s : Nat) : Int) = ((ofN s : Nat) : Int) := by
  have e : (if IntKind.signed .u32 then -1 else IntKind.max .u32) = ((4294967295 : Nat) : Int) := rfl
  rw [e, u32_xor _ _ (by omega) hm, Nat.xor_comm]; rfl
 rw [hx]
 have e8 : ((ofN s : Nat) : Int) / 2 ^ min (Int.toNat 8) (IntKind.bits .u32) = ((ofN s / 256 : Nat) : Int) := by
  have : ((2 : Int) ^ min (Int.toNat 8) (IntKind.bits .u32)) = 256 := rfl
  rw [this]; omega
 have e16 : ((ofN s : Nat) : Int) / 2 ^ min (Int.toNat 16) (IntKind.bits .u32) = ((ofN s / 65536 : Nat) : Int) := by
  have : ((2 : Int) ^ min (Int.toNat 16) (IntKind.bits .u32)) = 65536 := rfl
  rw [this]; omega
 have e24 : ((ofN s : Nat) : Int) / 2 ^ min (Int.toNat 24) (IntKind.bits .u32) = ((ofN s / 16777216 : Nat) : Int) := by
  have : ((2 : Int) ^ min (Int.toNat 24) (IntKind.bits .u32)) = 16777216 := rfl
  rw [this]; omega
 rw [e8, e16, e24, need_eq (u8_wrap_ok _), need_eq (u8_wrap_ok _), need_eq (u8_wrap_ok _), need_eq (u8_wrap_ok _), u8_wrap, u8_wrap, u8_wrap, u8_wrap, need_eq (by simp; omega)]
 rfl

theorem rSeal_eq (s : List UInt8) (hs : s.length ≤ 1000000000) : mewsref14.Seal s = some (sealN s) := by
 unfold mewsref14.Seal mewsref14.Of
 have hm := moreN_lt s (n := 4294967295) (by omega)
 rw [show (4294967295 : Int) = ((4294967295 : Nat) : Int) from rfl, rMore_eq 4294967295 s (by omega) hs]
 simp only [Option.bind_some]
 rw [u32_xor _ _ hm (by omega)]
 have hof := ofN_lt s
 rw [show moreN 4294967295 s ^^^ 4294967295 = ofN s from rfl]
 have e8 : IntKind.wrap .u32 (((ofN s : Nat) : Int).tdiv 256) = ((ofN s / 256 : Nat) : Int) := u32w (by show (0 : Int) ≤ ((ofN s / 256 : Nat) : Int); omega) (by show ((ofN s / 256 : Nat) : Int) < _; omega)
 have e16 : IntKind.wrap .u32 (((ofN s : Nat) : Int).tdiv 65536) = ((ofN s / 65536 : Nat) : Int) := u32w (by show (0 : Int) ≤ ((ofN s / 65536 : Nat) : Int); omega) (by show ((ofN s / 65536 : Nat) : Int) < _; omega)
 have e24 : IntKind.wrap .u32 (((ofN s : Nat) : Int).tdiv 16777216) = ((ofN s / 16777216 : Nat) : Int) := u32w (by show (0 : Int) ≤ ((ofN s / 16777216 : Nat) : Int); omega) (by show ((ofN s / 16777216 : Nat) : Int) < _; omega)
 rw [e8, e16, e24, need_eq (u8_wrap_ok _), need_eq (u8_wrap_ok _), need_eq (u8_wrap_ok _), need_eq (u8_wrap_ok _), u8_wrap, u8_wrap, u8_wrap, u8_wrap, need_eq (by simp; omega)]
 rfl

theorem cFits_eq (s : List UInt8) (hs : s.length ≤ 1000000000) : crc.Fits s = some (decide (4 ≤ s.length ∧ sealN (s.take (s.length - 4)) = s)) := by
 unfold crc.Fits
 by_cases h4 : 4 ≤ s.length
 ·have e : (s.length : Int) - 4 = ((s.length - 4 : Nat) : Int) := by omega
  rw [if_pos (by omega), e, i64w (by omega) (by omega), need_eq ⟨by omega, by omega, by omega⟩, sub_zero, Int.toNat_natCast, cSeal_eq _ (by simp; omega)]
  simp [h4]
 ·rw [if_neg (by omega)]
  simp [h4]

end Go.Pu
