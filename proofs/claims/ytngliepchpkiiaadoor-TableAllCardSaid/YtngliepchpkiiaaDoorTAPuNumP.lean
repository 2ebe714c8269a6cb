import Derived.Test.YtngliepchpkiiaaDoorTAPuNum
import Derived.Test.YtngliepchpkiiaaDoorTAPuStrL0
/- Numbers in decimals, all of 64 bits: the program's Parse, Text and Add are the reference's. -/
set_option maxHeartbeats 0
set_option maxRecDepth 100000
namespace Go.Pu
open Go.Lift

def I64 (v : Int) : Prop := -9223372036854775808 ≤ v ∧ v < 9223372036854775808
/-- A number's text. -/
def itext (v : Int) : Str := if v < 0 then 45 :: dtext v.natAbs else dtext v.natAbs

theorem rDigits_eqB (v : Nat) (h : v ≤ 9223372036854775808) : ∃ k, mewsref01.digits.rec k (-(v : Int)) = some (dtext v) := by
 have hw : IntKind.wrap .i64 (0 - (-(v : Int)).tmod 10) = ((v % 10 : Nat) : Int) := by
  rw [neg_tmod10, i64w (by omega) (by omega)]; omega
 have hm := Nat.mod_lt v (y := 10) (by omega)
 by_cases h1 : v < 10
 ·refine ⟨1, ?_⟩
  rw [mewsref01.digits.rec, if_pos (by omega), hw, i64w (n := ((v % 10 : Nat) : Int) + 1) (by omega) (by omega), need_eq ⟨by omega, by omega, by show ((v % 10 : Nat) : Int) + 1 ≤ 10; omega⟩]
  simp only [letO]
  rw [signs_at _ hm, dtext_small h1, show v % 10 = v by omega]
 ·obtain ⟨k, hk⟩ := rDigits_eqB (v / 10) (by omega)
  refine ⟨k + 1, ?_⟩
  rw [mewsref01.digits.rec, if_neg (by omega), neg_tdiv10, i64w (n := -((v / 10 : Nat) : Int)) (by omega) (by omega), hk, Option.bind_some, hw, i64w (n := ((v % 10 : Nat) : Int) + 1) (by omega) (by omega), need_eq ⟨by omega, by omega, by show ((v % 10 : Nat) : Int) + 1 ≤ 10; omega⟩]
  simp only [letO]
  have := dtext_len2 18 (v / 10) (by omega)
  rw [signs_at _ hm, need_eq (by simp only [List.length_singleton]; omega), ← dtext_big h1]
termination_by v

theorem rTextI (v : Int) (h : I64 v) : mewsref01.Text v = some (itext v) := by
 obtain ⟨h1, h2⟩ := h
 obtain ⟨k, hk⟩ := rDigits_eqB v.natAbs (by omega)
 unfold mewsref01.Text itext
 by_cases hn : v < 0
 ·rw [if_pos hn, if_pos hn]
  rw [show -((v.natAbs : Nat) : Int) = v by omega] at hk
  unfold mewsref01.digits
  have := dtext_len2 18 v.natAbs (by omega)
  rw [fixO_eq (fun k => rDigits_mono k _) hk, Option.bind_some, need_eq (by simp only [List.length_singleton]; omega)]
  rfl
 ·rw [if_neg hn, if_neg hn, i64w (by omega) (by omega)]
  rw [show -((v.natAbs : Nat) : Int) = 0 - v by omega] at hk
  unfold mewsref01.digits
  rw [fixO_eq (fun k => rDigits_mono k _) hk]
  rfl

/-! ### A sign and digits -/
def negB (s : Str) : Bool := match s with | c :: _ => decide (c = 45) | [] => false
def body (s : Str) : Str := if negB s = true then s.drop 1 else s

theorem bix45 {s : Str} (h : 0 < s.length) : decide (bix s 0 = 45) = negB s := by
 cases s with
 | nil => cases h
 | cons c t =>
  show decide ((c.toNat : Int) = 45) = decide (c = 45)
  congr 1
  refine propext ⟨fun h => UInt8.toNat_inj.1 (by show c.toNat = 45; omega), fun h => by rw [h]; rfl⟩

theorem body_itext {v : Int} : negB (itext v) = decide (v < 0) ∧ body (itext v) = dtext v.natAbs := by
 have hd : negB (dtext v.natAbs) = false := by
  have h1 := (dtext_dig v.natAbs).1
  cases h : dtext v.natAbs with
  | nil => rfl
  | cons c t =>
   have hc := h1 c (by rw [h]; simp)
   show decide (c = 45) = false
   refine decide_eq_false fun e => ?_
   subst e
   exact absurd hc (by decide)
 unfold body itext
 by_cases hn : v < 0
 ·rw [if_pos hn, decide_eq_true hn]
  exact ⟨rfl, rfl⟩
 ·rw [if_neg hn, hd, decide_eq_false hn]
  exact ⟨rfl, rfl⟩

/-- What a text tells, if it tells a number: both Parses. -/
def canon (s : Str) (v : Int) : Prop := I64 v ∧ s = itext v

theorem canon_iff {s : Str} {v : Int} (h : canon s v) : negB s = decide (v < 0) ∧ body s = dtext v.natAbs := by
 rw [h.2]; exact body_itext

theorem dval_drop_le (s : Str) (i j : Nat) : dval ((s.take i).drop j) ≤ dval (s.drop j) := by
 rw [List.drop_take]
 exact dval_take_le _ _

theorem rLoop_eq (s : Str) (hl : s.length < 1000000000000000) :
  ∃ q, mewsref01.Parse.loop0 s (negB s) ⟨0, 0⟩ = some q ∧ ((q = .inr (0, false) ∧ ((∃ c, c ∈ body s ∧ ¬ isDig c) ∨ 9223372036854775808 < dval (body s))) ∨ (q = .inl (-(dval (body s) : Int)) ∧ dval (body s) ≤ 9223372036854775808)) := by
 -- where the digits begin
 obtain ⟨j, hj, hb⟩ : ∃ j, (j = if negB s = true then 1 else 0) ∧ body s = s.drop j := by
  refine ⟨_, rfl, ?_⟩
  unfold body
  by_cases hn : negB s = true
  ·rw [if_pos hn, if_pos hn]
  ·rw [if_neg hn, if_neg hn]; rfl
 have hjl : j ≤ s.length := by
  rw [hj]
  by_cases hn : negB s = true
  ·rw [if_pos hn]
   cases s with
   | nil => cases hn
   | cons c t => simp
  ·rw [if_neg hn]; omega
 rw [hb]
 unfold mewsref01.Parse.loop0
 refine whileO_meas (fun t => ∃ i : Nat, t.i = (i : Int) ∧ i ≤ s.length ∧ t.n = -(dval ((s.take i).drop j) : Int) ∧ dval ((s.take i).drop j) ≤ 9223372036854775808) (fun t => s.length - t.i.toNat) _ (fun t => ?_) _ ⟨0, rfl, by omega, by simp [dval], by simp [dval]⟩
 obtain ⟨tn, ti⟩ := t
 rintro ⟨i, e, hi, hn, hle⟩
 replace e : ti = (i : Int) := e
 replace hn : tn = -(dval ((s.take i).drop j) : Int) := hn
 subst e hn
 unfold mewsref01.Parse.body0
 by_cases hc : i < s.length
 ·simp only [letO]
  rw [if_pos (by omega)]
  have hw : IntKind.wrap .i64 ((i : Int) + 1) = ((i + 1 : Nat) : Int) := by rw [i64w (by omega) (by omega)]; omega
  by_cases hskip : (if (i : Int) = 0 then negB s else false) = true
  ·rw [if_pos hskip]
   have hi0 : i = 0 := by
    by_cases h : (i : Int) = 0
    ·omega
    ·rw [if_neg h] at hskip; cases hskip
   subst hi0
   rw [if_pos (by rfl)] at hskip
   have hj1 : j = 1 := by rw [hj, if_pos hskip]
   refine .inl ⟨⟨-(dval ((s.take 0).drop j) : Int), IntKind.wrap .i64 (((0 : Nat) : Int) + 1)⟩, rfl, ⟨1, hw, by omega, ?_, ?_⟩, ?_⟩
   ·show -(dval ((s.take 0).drop j) : Int) = -(dval ((s.take 1).drop j) : Int)
    rw [hj1, List.drop_eq_nil_of_le (by rw [List.length_take]; omega), List.drop_eq_nil_of_le (by rw [List.length_take]; omega)]
   ·rw [hj1, List.drop_eq_nil_of_le (by rw [List.length_take]; omega)]
    decide
   ·show s.length - (IntKind.wrap .i64 (((0 : Nat) : Int) + 1)).toNat < s.length - ((0 : Nat) : Int).toNat
    rw [hw]; omega
  ·rw [if_neg hskip]
   have hji : j ≤ i := by
    rw [hj]
    by_cases h0 : i = 0
    ·subst h0
     rw [if_pos (by rfl)] at hskip
     rw [if_neg hskip]; omega
    ·split <;> omega
   have hmem : s[i] ∈ s.drop j := by
    rw [List.mem_iff_getElem]
    refine ⟨i - j, by rw [List.length_drop]; omega, ?_⟩
    rw [List.getElem_drop]
    congr 1
    omega
   have hsn : (s.take (i + 1)).drop j = (s.take i).drop j ++ [s[i]] := by
    rw [List.take_add_one, List.getElem?_eq_getElem hc, List.drop_append_of_le_length (by rw [List.length_take]; omega)]
    rfl
   rw [need_eq ⟨by omega, by omega⟩, need_eq ⟨by omega, by omega⟩, need_eq ⟨by omega, by omega⟩, bix_get' hc]
   have hlt := s[i].toNat_lt
   by_cases hdig : isDig s[i]
   ·obtain ⟨g1, g2⟩ := hdig
    have e1 : IntKind.wrap .i64 (IntKind.wrap .u8 ((s[i].toNat : Int) - 48)) = ((s[i].toNat - 48 : Nat) : Int) := by
     rw [u8w (by omega) (by omega), i64w (by omega) (by omega)]; omega
    have e2 : (IntKind.wrap .i64 ((-9223372036854775808) + ((s[i].toNat - 48 : Nat) : Int))).tdiv 10 = -(((9223372036854775808 - (s[i].toNat - 48)) / 10 : Nat) : Int) := by
     rw [i64w (by omega) (by omega)]
     have : (-9223372036854775808 : Int) + ((s[i].toNat - 48 : Nat) : Int) = -((9223372036854775808 - (s[i].toNat - 48) : Nat) : Int) := by omega
     rw [this, neg_tdiv10]
    rw [if_neg (by omega), Option.bind_some, decide_eq_false (by omega), if_neg (by decide), e1, e2]
    have hs2 := dval_snoc ((s.take i).drop j) s[i]
    rw [← hsn] at hs2
    generalize hA : dval ((s.take i).drop j) = A at hle hs2
    rw [i64w (n := -(((9223372036854775808 - (s[i].toNat - 48)) / 10 : Nat) : Int)) (by omega) (by omega)]
    by_cases hov : -(A : Int) < -(((9223372036854775808 - (s[i].toNat - 48)) / 10 : Nat) : Int)
    ·rw [if_pos hov]
     refine .inr ⟨.inr (0, false), rfl, .inl ⟨rfl, .inr ?_⟩⟩
     have h1 := dval_drop_le s (i + 1) j
     omega
    ·rw [if_neg hov, i64w (n := -(A : Int) * 10) (by omega) (by omega), i64w (n := -(A : Int) * 10 - _) (by omega) (by omega)]
     refine .inl ⟨⟨-(A : Int) * 10 - ((s[i].toNat - 48 : Nat) : Int), IntKind.wrap .i64 ((i : Int) + 1)⟩, rfl, ⟨i + 1, hw, by omega, ?_, by omega⟩, ?_⟩
     ·show -(A : Int) * 10 - ((s[i].toNat - 48 : Nat) : Int) = -(dval ((s.take (i + 1)).drop j) : Int)
      omega
     ·show s.length - (IntKind.wrap .i64 ((i : Int) + 1)).toNat < s.length - (i : Int).toNat
      rw [hw]; omega
   ·refine .inr ⟨.inr (0, false), ?_, .inl ⟨rfl, .inl ⟨_, hmem, hdig⟩⟩⟩
    unfold isDig at hdig
    by_cases h48 : (s[i].toNat : Int) < 48
    ·rw [if_pos h48]; rfl
    ·rw [if_neg h48, Option.bind_some, decide_eq_true (by omega)]; rfl
 ·rw [if_neg (show ¬ (i : Int) < (s.length : Int) by omega)]
  rw [List.take_of_length_le (by omega)] at hle ⊢
  exact .inr ⟨_, rfl, .inr ⟨rfl, hle⟩⟩

theorem rHead (s : Str) : (if 0 < (s.length : Int) then need (InB 0 s.length) (some (decide ((bix s 0) = 45))) else some false : Option Bool) = some (negB s) := by
 by_cases h0 : 0 < s.length
 ·rw [if_pos (by omega), need_eq ⟨by omega, by omega⟩, bix45 h0]
 ·have : s = [] := List.length_eq_zero_iff.1 (by omega)
  subst this
  rfl

/-- The value that a sign and digits tell. -/
def sval (s : Str) : Int := if negB s = true then -(dval (body s) : Int) else (dval (body s) : Int)

theorem rParseI (s : Str) (hl : s.length < 1000000000000000) : ∃ b : Bool, mewsref01.Parse s = some (if b then (sval s, true) else (0, false)) ∧ (b = true ↔ ∃ v, canon s v) ∧ (b = true → canon s (sval s)) := by
 obtain ⟨q, hq, h⟩ := rLoop_eq s hl
 have hcan : ∀ v, canon s v → (∀ c, c ∈ body s → isDig c) ∧ dval (body s) = v.natAbs ∧ sval s = v := fun v hv => by
  obtain ⟨h1, h2⟩ := canon_iff hv
  obtain ⟨h3, h4⟩ := dtext_dig v.natAbs
  rw [← h2] at h3 h4
  refine ⟨h3, h4, ?_⟩
  unfold sval
  rw [h4, h1]
  by_cases hn : v < 0
  ·rw [if_pos (decide_eq_true hn)]; omega
  ·rw [if_neg (by simpa using hn)]; omega
 unfold mewsref01.Parse
 rw [rHead, Option.bind_some, hq, Option.bind_some]
 rcases h with ⟨rfl, hbad⟩ | ⟨rfl, hle⟩
 ·refine ⟨false, rfl, ⟨(fun h => by cases h), fun ⟨v, hv⟩ => ?_⟩, (fun h => by cases h)⟩
  obtain ⟨h1, h2, _⟩ := hcan v hv
  rcases hbad with ⟨c, hc, hnd⟩ | hbig
  ·exact absurd (h1 c hc) hnd
  ·have := hv.1
   unfold I64 at this
   omega
 ·simp only [onSum, letO]
  by_cases hn : negB s = true
  ·have hs : sval s = -(dval (body s) : Int) := by unfold sval; rw [if_pos hn]
   have hI : I64 (-(dval (body s) : Int)) := ⟨by omega, by omega⟩
   simp only [hn, Bool.not_true, Bool.false_eq_true, if_false]
   rw [rTextI _ hI, Option.bind_some, ← hs]
   rw [← hs] at hI
   by_cases he : itext (sval s) = s
   ·exact ⟨true, by rw [if_pos he]; rfl, ⟨fun _ => ⟨_, hI, he.symm⟩, fun _ => rfl⟩, fun _ => ⟨hI, he.symm⟩⟩
   ·refine ⟨false, by rw [if_neg he]; rfl, ⟨(fun h => by cases h), fun ⟨v, hv⟩ => ?_⟩, (fun h => by cases h)⟩
    obtain ⟨_, _, h3⟩ := hcan v hv
    rw [h3] at he
    exact absurd hv.2.symm he
  ·have hn' : negB s = false := by simpa using hn
   have hs : sval s = (dval (body s) : Int) := by unfold sval; rw [if_neg hn]
   simp only [hn', Bool.not_false, if_true]
   by_cases hmin : -(dval (body s) : Int) = -9223372036854775808
   ·rw [decide_eq_true hmin, if_pos rfl]
    refine ⟨false, rfl, ⟨(fun h => by cases h), fun ⟨v, hv⟩ => ?_⟩, (fun h => by cases h)⟩
    obtain ⟨_, h2, h3⟩ := hcan v hv
    have := hv.1
    unfold I64 at this
    omega
   ·rw [decide_eq_false hmin, if_neg (by decide)]
    have hI : I64 (dval (body s) : Int) := ⟨by omega, by omega⟩
    rw [show (0 : Int) - -(dval (body s) : Int) = (dval (body s) : Int) by omega, i64w hI.1 hI.2, rTextI _ hI, Option.bind_some, ← hs]
    rw [← hs] at hI
    by_cases he : itext (sval s) = s
    ·exact ⟨true, by rw [if_pos he]; rfl, ⟨fun _ => ⟨_, hI, he.symm⟩, fun _ => rfl⟩, fun _ => ⟨hI, he.symm⟩⟩
    ·refine ⟨false, by rw [if_neg he]; rfl, ⟨(fun h => by cases h), fun ⟨v, hv⟩ => ?_⟩, (fun h => by cases h)⟩
     obtain ⟨_, _, h3⟩ := hcan v hv
     rw [h3] at he
     exact absurd hv.2.symm he

end Go.Pu
