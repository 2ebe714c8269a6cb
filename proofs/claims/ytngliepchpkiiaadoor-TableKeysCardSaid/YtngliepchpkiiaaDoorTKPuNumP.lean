import Derived.Test.YtngliepchpkiiaaDoorTKPuNum
import Derived.Test.YtngliepchpkiiaaDoorTKPuStrL0
/- Numbers in decimals, all of 64 bits: the program's Parse, Text and Add are the reference's. -/
set_option maxHeartbeats 0
set_option maxRecDepth 100000
namespace Go.Pu
open Go.Lift

def I64 (v : Int) : Prop := -9223372036854775808 ≤ v ∧ v < 9223372036854775808
/-- A number's text. -/
def itext (v : Int) : Str := if v < 0 then 45 :: dtext v.natAbs else dtext v.natAbs

theorem rDigits_eqB (v : Nat) (h : v ≤ 9223372036854775808) : ∃ k, mewsref01.digits.rec k (-(v : Int)) = some (dtext v) := by
 have hw : IntKind.wrap .i64 (0 - (-(v : Int)).tmod 10) = ((v % 10 : Nat) : Int) := by
  rw [neg_tmod10, i64w (by omega) (by omega)]; omega
 have hm := Nat.mod_lt v (y := 10) (by omega)
 by_cases h1 : v < 10
 ·refine ⟨1, ?_⟩
  rw [mewsref01.digits.rec, if_pos (by omega), hw, i64w (n := ((v % 10 : Nat) : Int) + 1) (by omega) (by omega), need_eq ⟨by omega, by omega, by show ((v % 10 : Nat) : Int) + 1 ≤ 10; omega⟩]
  simp only [letO]
  rw [signs_at _ hm, dtext_small h1, show v % 10 = v by omega]
 ·obtain ⟨k, hk⟩ := rDigits_eqB (v / 10) (by omega)
  refine ⟨k + 1, ?_⟩
  rw [mewsref01.digits.rec, if_neg (by omega), neg_tdiv10, i64w (n := -((v / 10 : Nat) : Int)) (by omega) (by omega), hk, Option.bind_some, hw, i64w (n := ((v % 10 : Nat) : Int) + 1) (by omega) (by omega), need_eq ⟨by omega, by omega, by show ((v % 10 : Nat) : Int) + 1 ≤ 10; omega⟩]
  simp only [letO]
  have := dtext_len2 18 (v / 10) (by omega)
  rw [signs_at _ hm, need_eq (by simp only [List.length_singleton]; omega), ← dtext_big h1]
termination_by v

theorem rTextI (v : Int) (h : I64 v) : mewsref01.Text v = some (itext v) := by
 obtain ⟨h1, h2⟩ := h
 obtain ⟨k, hk⟩ := rDigits_eqB v.natAbs (by omega)
 unfold mewsref01.Text itext
 by_cases hn : v < 0
 ·rw [if_pos hn, if_pos hn]
  rw [show -((v.natAbs : Nat) : Int) = v by omega] at hk
  unfold mewsref01.digits
  have := dtext_len2 18 v.natAbs (by omega)
  rw [fixO_eq (fun k => rDigits_mono k _) hk, Option.bind_some, need_eq (by simp only [List.length_singleton]; omega)]
  rfl
 ·rw [if_neg hn, if_neg hn, i64w (by omega) (by omega)]
  rw [show -((v.natAbs : Nat) : Int) = 0 - v by omega] at hk
  unfold mewsref01.digits
  rw [fixO_eq (fun k => rDigits_mono k _) hk]
  rfl

/-! ### A sign and digits -/
def negB (s : Str) : Bool := match s with | c :: _ => decide (c = 45) | [] => false
def body (s : Str) : Str := if negB s = true then s.drop 1 else s

theorem bix45 {s : Str} (h : 0 < s.length) : decide (bix s 0 = 45) = negB s := by
 cases s with
 | nil => cases h
 | cons c t =>
  show decide ((c.toNat : Int) = 45) = decide (c = 45)
  congr 1
  refine propext ⟨fun h => UInt8.toNat_inj.1 (by show c.toNat = 45; omega), fun h => by rw [h]; rfl⟩

theorem body_itext {v : Int} : negB (itext v) = decide (v < 0) ∧ body (itext v) = dtext v.natAbs := by
 have hd : negB (dtext v.natAbs) = false := by
  have h1 := (dtext_dig v.natAbs).1
  cases h : dtext v.natAbs with
  | nil => rfl
  | cons c t =>
   have hc := h1 c (by rw [h]; simp)
   show decide (c = 45) = false
   refine decide_eq_false fun e => ?_
   subst e
   exact absurd hc (by decide)
 unfold body itext
 by_cases hn : v < 0
 ·rw [if_pos hn, decide_eq_true hn]
  exact ⟨rfl, rfl⟩
 ·rw [if_neg hn, hd, decide_eq_false hn]
  exact ⟨rfl, rfl⟩

/-- What a text tells, if it tells a number: both Parses. -/
def canon (s : Str) (v : Int) : Prop := I64 v ∧ s = itext v

theorem canon_iff {s : Str} {v : Int} (h : canon s v) : negB s = decide (v < 0) ∧ body s = dtext v.natAbs := by
 rw [h.2]; exact body_itext

theorem dval_drop_le (s : Str) (i j : Nat) : dval ((s.take i).drop j) ≤ dval (s.drop j) := by
 rw [List.drop_take]
 exact dval_take_le _ _

theorem rLoop_eq (s : Str) (hl : s.length < 1000000000000000) :
  ∃ q, mewsref01.Parse.loop0 s (negB s) ⟨0, 0⟩ = some q ∧ ((q = .inr (0, false) ∧ ((∃ c, c ∈ body s ∧ ¬ isDig c) ∨ 9223372036854775808 < dval (body s))) ∨ (q = .inl (-(dval (body s) : Int)) ∧ dval (body s) ≤ 9223372036854775808)) := by
 -- where the digits begin
 obtain ⟨j, hj, hb⟩ : ∃ j, (j = if negB s = true then 1 else 0) ∧ body s = s.drop j := by
  refine ⟨_, rfl, ?_⟩
  unfold body
  by_cases hn : negB s = true
  ·rw [if_pos hn, if_pos hn]
  ·rw [if_neg hn, if_neg hn]; rfl
 have hjl : j ≤ s.length := by
  rw [hj]
  by_cases hn : negB s = true
  ·rw [if_pos hn]
   cases s with
   | nil => cases hn
   | cons c t => simp
  ·rw [if_neg hn]; omega
 rw [hb]
 unfold mewsref01.Parse.loop0
 refine whileO_meas (fun t => ∃ i : Nat, t.i = (i : Int) ∧ i ≤ s.length ∧ t.n = -(dval ((s.take i).drop j) : Int) ∧ dval ((s.take i).drop j) ≤ 9223372036854775808) (fun t => s.length - t.i.toNat) _ (fun t => ?_) _ ⟨0, rfl, by omega, by simp [dval], by simp [dval]⟩
 obtain ⟨tn, ti⟩ := t
 rintro ⟨i, e, hi, hn, hle⟩
 replace e : ti = (i : Int) := e
 replace hn : tn = -(dval ((s.take i).drop j) : Int) := hn
 subst e hn
 unfold mewsref01.Parse.body0
 by_cases hc : i < s.length
 ·simp only [letO]
  rw [if_pos (by omega)]
  have hw : IntKind.wrap .i64 ((i : Int) + 1) = ((i + 1 : Nat) : Int) := by rw [i64w (by omega) (by omega)]; omega
  by_cases hskip : (if (i : Int) = 0 then negB s else false) = true
  ·rw [if_pos hskip]
   have hi0 : i = 0 := by
    by_cases h : (i : Int) = 0
    ·omega
    ·rw [if_neg h] at hskip; cases hskip
   subst hi0
   rw [if_pos (by rfl)] at hskip
   have hj1 : j = 1 := by rw [hj, if_pos hskip]
   refine .inl ⟨⟨-(dval ((s.take 0).drop j) : Int), IntKind.wrap .i64 (((0 : Nat) : Int) + 1)⟩, rfl, ⟨1, hw, by omega, ?_, ?_⟩, ?_⟩
   ·show -(dval ((s.take 0).drop j) : Int) = -(dval ((s.take 1).drop j) : Int)
    rw [hj1, List.drop_eq_nil_of_le (by rw [List.length_take]; omega), List.drop_eq_nil_of_le (by rw [List.length_take]; omega)]
   ·rw [hj1, List.drop_eq_nil_of_le (by rw [List.length_take]; omega)]
    decide
   ·show s.length - (IntKind.wrap .i64 (((0 : Nat) : Int) + 1)).toNat < s.length - ((0 : Nat) : Int).toNat
    rw [hw]; omega
  ·rw [if_neg hskip]
   have hji : j ≤ i := by
    rw [hj]
    by_cases h0 : i = 0
    ·subst h0
     rw [if_pos (by rfl)] at hskip
     rw [if_neg hskip]; omega
    ·split <;> omega
   have hmem : s[i] ∈ s.drop j := by
    rw [List.mem_iff_getElem]
    refine ⟨i - j, by rw [List.length_drop]; omega, ?_⟩
    rw [List.getElem_drop]
    congr 1
    omega
   have hsn : (s.take (i + 1)).drop j = (s.take i).drop j ++ [s[i]] := by
    rw [List.take_add_one, List.getElem?_eq_getElem hc, List.drop_append_of_le_length (by rw [List.length_take]; omega)]
    rfl
   rw [need_eq ⟨by omega, by omega⟩, need_eq ⟨by omega, by omega⟩, need_eq ⟨by omega, by omega⟩, bix_get' hc]
   have hlt := s[i].toNat_lt
   by_cases hdig : isDig s[i]
   ·obtain ⟨g1, g2⟩ := hdig
    have e1 : IntKind.wrap .i64 (IntKind.wrap .u8 ((s[i].toNat : Int) - 48)) = ((s[i].toNat - 48 : Nat) : Int) := by
     rw [u8w (by omega) (by omega), i64w (by omega) (by omega)]; omega
    have e2 : (IntKind.wrap .i64 ((-9223372036854775808) + ((s[i].toNat - 48 : Nat) : Int))).tdiv 10 = -(((9223372036854775808 - (s[i].toNat - 48)) / 10 : Nat) : Int) := by
     rw [i64w (by omega) (by omega)]
     have : (-9223372036854775808 : Int) + ((s[i].toNat - 48 : Nat) : Int) = -((9223372036854775808 - (s[i].toNat - 48) : Nat) : Int) := by omega
     rw [this, neg_tdiv10]
    rw [if_neg (by omega), Option.bind_some, decide_eq_false (by omega), if_neg (by decide), e1, e2]
    have hs2 := dval_snoc ((s.take i).drop j) s[i]
    rw [← hsn] at hs2
    generalize hA : dval ((s.take i).drop j) = A at hle hs2
    rw [i64w (n := -(((9223372036854775808 - (s[i].toNat - 48)) / 10 : Nat) : Int)) (by omega) (by omega)]
    by_cases hov : -(A : Int) < -(((9223372036854775808 - (s[i].toNat - 48)) / 10 : Nat) : Int)
    ·rw [if_pos hov]
     refine .inr ⟨.inr (0, false), rfl, .inl ⟨rfl, .inr ?_⟩⟩
     have h1 := dval_drop_le s (i + 1) j
     omega
    ·rw [if_neg hov, i64w (n := -(A : Int) * 10) (by omega) (by omega), i64w (n := -(A : Int) * 10 - _) (by omega) (by omega)]
     refine .inl ⟨⟨-(A : Int) * 10 - ((s[i].toNat - 48 : Nat) : Int), IntKind.wrap .i64 ((i : Int) + 1)⟩, rfl, ⟨i + 1, hw, by omega, ?_, by omega⟩, ?_⟩
     ·show -(A : Int) * 10 - ((s[i].toNat - 48 : Nat) : Int) = -(dval ((s.take (i + 1)).drop j) : Int)
      omega
     ·show s.length - (IntKind.wrap .i64 ((i : Int) + 1)).toNat < s.length - (i : Int).toNat
      rw [hw]; omega
   ·refine .inr ⟨.inr (0, false), ?_, .inl ⟨rfl, .inl ⟨_, hmem, hdig⟩⟩⟩
    unfold isDig at hdig
    by_cases h48 : (s[i].toNat : Int) < 48
    ·rw [if_pos h48]; rfl
    ·rw [if_neg h48, Option.bind_some, decide_eq_true (by omega)]; rfl
 ·rw [if_neg (show ¬ (i : Int) < (s.length : Int) by omega)]
  rw [List.take_of_length_le (by omega)] at hle ⊢
  exact .inr ⟨_, rfl, .inr ⟨rfl, hle⟩⟩

theorem rHead (s : Str) : (if 0 < (s.length : Int) then need (InB 0 s.length) (some (decide ((bix s 0) = 45))) else some false : Option Bool) = some (negB s) := by
 by_cases h0 : 0 < s.length
 ·rw [if_pos (by omega), need_eq ⟨by omega, by omega⟩, bix45 h0]
 ·have : s = [] := List.length_eq_zero_iff.1 (by omega)
  subst this
  rfl

/-- The value that a sign and digits tell. -/
def sval (s : Str) : Int := if negB s = true then -(dval (body s) : Int) else (dval (body s) : Int)

theorem rParseI (s : Str) (hl : s.length < 1000000000000000) : ∃ b : Bool, mewsref01.Parse s = some (if b then (sval s, true) else (0, false)) ∧ (b = true ↔ ∃ v, canon s v) ∧ (b = true → canon s (sval s)) := by
 obtain ⟨q, hq, h⟩ := rLoop_eq s hl
 have hcan : ∀ v, canon s v → (∀ c, c ∈ body s → isDig c) ∧ dval (body s) = v.natAbs ∧ sval s = v := fun v hv => by
  obtain ⟨h1, h2⟩ := canon_iff hv
  obtain ⟨h3, h4⟩ := dtext_dig v.natAbs
  rw [← h2] at h3 h4
  refine ⟨h3, h4, ?_⟩
  unfold sval
  rw [h4, h1]
  by_cases hn : v < 0
  ·rw [if_pos (decide_eq_true hn)]; omega
  ·rw [if_neg (by simpa using hn)]; omega
 unfold mewsref01.Parse
 rw [rHead, Option.bind_some, hq, Option.bind_some]
 rcases h with ⟨rfl, hbad⟩ | ⟨rfl, hle⟩
 ·refine ⟨false, rfl, ⟨(fun h => by cases h), fun ⟨v, hv⟩ => ?_⟩, (fun h => by cases h)⟩
  obtain ⟨h1, h2, _⟩ := hcan v hv
  rcases hbad with ⟨c, hc, hnd⟩ | hbig
  ·exact absurd (h1 c hc) hnd
  ·have := hv.1
   unfold I64 at this
   omega
 ·simp only [onSum, letO]
  by_cases hn : negB s = true
  ·have hs : sval s = -(dval (body s) : Int) := by unfold sval; rw [if_pos hn]
   have hI : I64 (-(dval (body s) : Int)) := ⟨by omega, by omega⟩
   simp only [hn, Bool.not_true, Bool.false_eq_true, if_false]
   rw [rTextI _ hI, Option.bind_some, ← hs]
   rw [← hs] at hI
   by_cases he : itext (sval s) = s
   ·exact ⟨true, by rw [if_pos he]; rfl, ⟨fun _ => ⟨_, hI, he.symm⟩, fun _ => rfl⟩, fun _ => ⟨hI, he.symm⟩⟩
   ·refine ⟨false, by rw [if_neg he]; rfl, ⟨(fun h => by cases h), fun ⟨v, hv⟩ => ?_⟩, (fun h => by cases h)⟩
    obtain ⟨_, _, h3⟩ := hcan v hv
    rw [h3] at he
    exact absurd hv.2.symm he
  ·have hn' : negB s = false := by simpa using hn
   have hs : sval s = (dval (body s) : Int) := by unfold sval; rw [if_neg hn]
   simp only [hn', Bool.not_false, if_true]
   by_cases hmin : -(dval (body s) : Int) = -9223372036854775808
   ·rw [decide_eq_true hmin, if_pos rfl]
    refine ⟨false, rfl, ⟨(fun h => by cases h), fun ⟨v, hv⟩ => ?_⟩, (fun h => by cases h)⟩
    obtain ⟨_, h2, h3⟩ := hcan v hv
    have := hv.1
    unfold I64 at this
    omega
   ·rw [decide_eq_false hmin, if_neg (by decide)]
    have hI : I64 (dval (body s) : Int) := ⟨by omega, by omega⟩
    rw [show (0 : Int) - -(dval (body s) : Int) = (dval (body s) : Int) by omega, i64w hI.1 hI.2, rTextI _ hI, Option.bind_some, ← hs]
    rw [← hs] at hI
    by_cases he : itext (sval s) = s
    ·exact ⟨true, by rw [if_pos he]; rfl, ⟨fun _ => ⟨_, hI, he.symm⟩, fun _ => rfl⟩, fun _ => ⟨hI, he.symm⟩⟩
    ·refine ⟨false, by rw [if_neg he]; rfl, ⟨(fun h => by cases h), fun ⟨v, hv⟩ => ?_⟩, (fun h => by cases h)⟩
     obtain ⟨_, _, h3⟩ := hcan v hv
     rw [h3] at he
     exact absurd hv.2.symm he

/-! ### The program's Parse -/
theorem pLoop_eq (s : Str) (hl : s.length ≤ 19) : num.Parse.loop0 s ⟨0, 0⟩ = some (if s.all (fun c => decide (isDig c)) = true then .inl (dval s : Int) else .inr (0, false)) := by
 have hpow : ∀ (n : Nat) (t : Str), t.length = n → (∀ c, c ∈ t → isDig c) → dval t < 10 ^ t.length := by
  intro n
  induction n with
  | zero =>
   intro t hl _
   have : t = [] := List.length_eq_zero_iff.1 hl
   subst this
   decide
  | succ n ih =>
   intro t hl h
   have hne : t ≠ [] := by intro e; rw [e] at hl; simp at hl
   obtain ⟨u, c, rfl⟩ : ∃ u c, t = u ++ [c] := ⟨t.dropLast, t.getLast hne, (List.dropLast_concat_getLast hne).symm⟩
   have h1 := ih u (by simpa using hl) fun x hx => h x (List.mem_append_left _ hx)
   have h2 := (h c (by simp)).2
   rw [dval_snoc, List.length_append, List.length_singleton, Nat.pow_succ]
   omega
 obtain ⟨q, hq, h⟩ : ∃ q, num.Parse.loop0 s ⟨0, 0⟩ = some q ∧ q = (if s.all (fun c => decide (isDig c)) = true then .inl (dval s : Int) else .inr (0, false)) := by
  unfold num.Parse.loop0
  refine whileO_meas (fun t => ∃ i : Nat, t.t42 = (i : Int) ∧ i ≤ s.length ∧ t.n = (dval (s.take i) : Int) ∧ ∀ c, c ∈ s.take i → isDig c) (fun t => s.length - t.t42.toNat) _ (fun t => ?_) _ ⟨0, rfl, by omega, by simp [dval], by simp⟩
  obtain ⟨tn, ti⟩ := t
  rintro ⟨i, e, hi, hn, hd⟩
  replace e : ti = (i : Int) := e
  replace hn : tn = (dval (s.take i) : Int) := hn
  subst e hn
  unfold num.Parse.body0 letO
  show (∃ s', (if (i : Int) < (s.length : Int) then _ else _ : Option _) = _ ∧ _) ∨ (∃ s', (if (i : Int) < (s.length : Int) then _ else _ : Option _) = _ ∧ _)
  by_cases hc : i < s.length
  ·rw [if_pos (by omega), need_eq ⟨by show (0 : Int) ≤ (i : Int); omega, by show (i : Int) < (s.length : Int); omega⟩]
   show (∃ s', (if (if bix s (i : Int) < 48 then true else decide (57 < bix s (i : Int))) = true then _ else some (Sum.inl (⟨IntKind.wrap .u64 ((IntKind.wrap .u64 ((dval (s.take i) : Int) * 10)) + (IntKind.wrap .u64 (IntKind.wrap .u8 ((bix s (i : Int)) - 48)))), IntKind.wrap .i64 ((i : Int) + 1)⟩ : num.Parse.S0)) : Option _) = _ ∧ _) ∨ (∃ s', (if (if bix s (i : Int) < 48 then true else decide (57 < bix s (i : Int))) = true then some (Sum.inr (Sum.inr ((0 : Int), false))) else _ : Option _) = _ ∧ _)
   rw [bix_get' hc]
   have hlt := s[i].toNat_lt
   by_cases hdig : isDig s[i]
   ·obtain ⟨g1, g2⟩ := hdig
    have hp := hpow _ _ rfl hd
    have hp2 : (10 : Nat) ^ (s.take i).length ≤ 10 ^ 18 := Nat.pow_le_pow_right (by decide) (by rw [List.length_take]; omega)
    have hw : IntKind.wrap .i64 ((i : Int) + 1) = ((i + 1 : Nat) : Int) := by rw [i64w (by omega) (by omega)]; omega
    have hp3 : (10 : Nat) ^ 18 = 1000000000000000000 := by decide
    rw [if_neg (by rw [if_neg (by omega)]; simp; omega), u8w (by omega) (by omega), u64w (n := (s[i].toNat : Int) - 48) (by omega) (by omega), u64w (n := _ * 10) (by omega) (by omega), u64w (by omega) (by omega)]
    refine .inl ⟨_, rfl, ⟨i + 1, hw, by omega, ?_, fun c hc2 => ?_⟩, ?_⟩
    ·show (dval (s.take i) : Int) * 10 + ((s[i].toNat : Int) - 48) = (dval (s.take (i + 1)) : Int)
     rw [List.take_add_one, List.getElem?_eq_getElem hc]
     simp only [Option.toList_some]
     rw [dval_snoc]
     omega
    ·rw [List.take_add_one, List.getElem?_eq_getElem hc] at hc2
     simp only [Option.toList_some] at hc2
     rcases List.mem_append.1 hc2 with hc2 | hc2
     ·exact hd c hc2
     ·simp at hc2; subst hc2; exact ⟨g1, g2⟩
    ·show s.length - (IntKind.wrap .i64 ((i : Int) + 1)).toNat < s.length - (i : Int).toNat
     rw [hw]; omega
   ·right
    have hbad : (if (s[i].toNat : Int) < 48 then true else decide (57 < (s[i].toNat : Int))) = true := by
     unfold isDig at hdig
     by_cases h48 : (s[i].toNat : Int) < 48
     ·rw [if_pos h48]
     ·rw [if_neg h48]; exact decide_eq_true (by omega)
    rw [if_pos hbad]
    refine ⟨_, rfl, ?_⟩
    rw [if_neg]
    intro hall
    have := List.all_eq_true.1 hall s[i] (List.getElem_mem hc)
    exact hdig (of_decide_eq_true this)
  ·rw [if_neg (by omega)]
   rw [List.take_of_length_le (by omega)] at hd ⊢
   refine .inr ⟨_, rfl, ?_⟩
   rw [if_pos]
   exact List.all_eq_true.2 fun c hc => decide_eq_true (hd c hc)
 rw [hq, h]

theorem pParse_eq (s : Str) (hl : s.length < 1000000000000000) : num.Parse s = mewsref01.Parse s := by
 obtain ⟨b, hb, hiff, hcan⟩ := rParseI s hl
 rw [hb]
 have hhead : (if s = ([] : List UInt8) then some false else need (InB 0 s.length) (some (decide ((bix s 0) = 45))) : Option Bool) = some (negB s) := by
  by_cases h : s = []
  ·rw [if_pos h, h]; rfl
  ·have hp : 0 < s.length := List.length_pos_iff.2 h
   rw [if_neg h, need_eq ⟨by omega, by omega⟩, bix45 hp]
 have hbody : (if negB s = true then need (InR 1 (s.length : Int) s.length) (some (sub s 1 (s.length : Int))) else some s : Option Str) = some (body s) := by
  unfold body
  by_cases h : negB s = true
  ·have hp : 0 < s.length := by
    cases s with
    | nil => cases h
    | cons c t => simp
   rw [if_pos h, if_pos h, need_eq ⟨by omega, by omega, by omega⟩, sub_all]
   rfl
  ·rw [if_neg h, if_neg h]
 unfold num.Parse
 rw [hhead, Option.bind_some, hbody, Option.bind_some]
 -- what is no number for a reason of its form
 have hbad : ∀ (P : Prop), (∀ v, canon s v → ¬ P) → P → b = false := fun P h hp => by
  cases b with
  | false => rfl
  | true =>
   obtain ⟨v, hv⟩ := hiff.1 rfl
   exact absurd hp (h v hv)
 have hlen : ∀ v, canon s v → 1 ≤ (body s).length ∧ (body s).length ≤ 19 ∧ ((body s).head? = some 48 → v = 0 ∧ (body s).length = 1) := fun v hv => by
  obtain ⟨h1, h2⟩ := canon_iff hv
  have hI := hv.1
  unfold I64 at hI
  rw [h2]
  refine ⟨(dtext_len _).1, dtext_len2 18 _ (by omega), fun hh => ?_⟩
  by_cases h0 : v.natAbs = 0
  ·refine ⟨by omega, ?_⟩
   rw [h0, dtext_small (by omega)]
   rfl
  ·exact absurd hh (dtext_head (by omega))
 by_cases he : body s = []
 ·rw [if_pos he, Option.bind_some, if_pos rfl, hbad (body s = []) (fun v hv h => by have := (hlen v hv).1; rw [h] at this; simp at this) he]
  rfl
 ·rw [if_neg he]
  by_cases h19 : 19 < (body s).length
  ·rw [if_pos (by omega), Option.bind_some, if_pos rfl, hbad (19 < (body s).length) (fun v hv h => by have := (hlen v hv).2.1; omega) h19]
   rfl
  ·rw [if_neg (by omega)]
   have hp : 0 < (body s).length := List.length_pos_iff.2 he
   rw [need_eq ⟨by omega, by omega⟩]
   have hz : (bix (body s) 0 = 48) ↔ (body s).head? = some 48 := by
    cases hbs : body s with
    | nil => exact absurd hbs he
    | cons c t =>
     show ((c.toNat : Int) = 48) ↔ _
     simp only [List.head?_cons, Option.some.injEq]
     exact ⟨fun h => UInt8.toNat_inj.1 (by show c.toNat = 48; omega), fun h => by rw [h]; rfl⟩
   by_cases hbad2 : (body s).head? = some 48 ∧ (negB s = true ∨ 1 < (body s).length)
   ·have hb2 : (if bix (body s) 0 = 48 then (if negB s = true then some true else some (decide (1 < ((body s).length : Int)))) else some false : Option Bool) = some true := by
     rw [if_pos (hz.2 hbad2.1)]
     rcases hbad2.2 with h | h
     ·rw [if_pos h]
     ·by_cases hn : negB s = true
      ·rw [if_pos hn]
      ·rw [if_neg hn, decide_eq_true (by omega)]
    rw [hb2, Option.bind_some, if_pos rfl, hbad _ (fun v hv h => ?_) hbad2]
    ·rfl
    ·obtain ⟨h0, h1⟩ := (hlen v hv).2.2 h.1
     have hng := (canon_iff hv).1
     rw [h0] at hng
     rcases h.2 with h | h
     ·rw [h] at hng; cases hng
     ·omega
   ·have hb2 : (if bix (body s) 0 = 48 then (if negB s = true then some true else some (decide (1 < ((body s).length : Int)))) else some false : Option Bool) = some false := by
     by_cases h48 : bix (body s) 0 = 48
     ·rw [if_pos h48]
      have h1 : ¬ (negB s = true ∨ 1 < (body s).length) := fun h => hbad2 ⟨hz.1 h48, h⟩
      rw [if_neg (fun h => h1 (.inl h)), decide_eq_false (fun h => h1 (.inr (by omega)))]
     ·rw [if_neg h48]
    rw [hb2, Option.bind_some, if_neg (by decide), pLoop_eq _ (by omega)]
    by_cases hd : (body s).all (fun c => decide (isDig c)) = true
    ·rw [if_pos hd, Option.bind_some]
     have hdig : ∀ c, c ∈ body s → isDig c := fun c hc => of_decide_eq_true (List.all_eq_true.1 hd c hc)
     have htext : dtext (dval (body s)) = body s := by
      refine dtext_dval ((body s).length - 1) _ (by omega) hdig ?_
      by_cases h1 : (body s).head? = some 48
      ·left
       have : ¬ (1 < (body s).length) := fun h => hbad2 ⟨h1, .inr h⟩
       omega
      ·exact .inr h1
     have hlen19 : dval (body s) < 10000000000000000000 := by
      have : ∀ (n : Nat), 10 ^ n ≤ dval (body s) → n < (dtext (dval (body s))).length := by
       intro n
       generalize dval (body s) = v
       induction n generalizing v with
       | zero => intro h; exact (dtext_len v).1
       | succ n ih =>
        intro h
        rw [Nat.pow_succ] at h
        have hp : 0 < 10 ^ n := Nat.pow_pos (by decide)
        rw [dtext_big (by omega), List.length_append, List.length_singleton]
        have := ih (v / 10) (by omega)
        omega
      have h19' := this 19
      rw [htext] at h19'
      have h10 : (10 : Nat) ^ 19 = 10000000000000000000 := by decide
      omega
     simp only [onSum, letO]
     by_cases hn : negB s = true
     ·simp only [hn, if_true]
      by_cases hmax : (dval (body s) : Int) ≤ 9223372036854775808
      ·rw [decide_eq_true hmax, if_pos rfl]
       have hsv : sval s = -(dval (body s) : Int) := by unfold sval; rw [if_pos hn]
       have hpos : 0 < dval (body s) := by
        refine dval_pos _ he hdig fun h1 => hbad2 ⟨h1, .inl hn⟩
       have hc : canon s (-(dval (body s) : Int)) := by
        refine ⟨⟨by omega, by omega⟩, ?_⟩
        unfold itext
        rw [if_pos (by omega), show (-(dval (body s) : Int)).natAbs = dval (body s) by omega, htext]
        unfold body
        rw [if_pos hn]
        cases s with
        | nil => cases hn
        | cons c t =>
         have : c = 45 := of_decide_eq_true hn
         rw [this]; rfl
       have hbt : b = true := hiff.2 ⟨_, hc⟩
       rw [hbt, if_pos rfl, hsv]
       have hwr : IntKind.wrap .i64 (0 - IntKind.wrap .i64 (dval (body s) : Int)) = -(dval (body s) : Int) := by
        rw [IntKind.wrap_i64, IntKind.wrap_i64]
        omega
       rw [hwr]
      ·rw [decide_eq_false hmax, if_neg (by decide)]
       rw [hbad (9223372036854775808 < dval (body s)) (fun v hv h => ?_) (by omega)]
       ·rfl
       ·have hI := hv.1
        unfold I64 at hI
        have := (dtext_dig v.natAbs).2
        rw [← (canon_iff hv).2] at this
        omega
     ·have hn' : negB s = false := by simpa using hn
      simp only [hn', Bool.false_eq_true, if_false]
      by_cases hmax : (9223372036854775808 : Int) ≤ (dval (body s) : Int)
      ·rw [decide_eq_true hmax, if_pos rfl]
       rw [hbad (9223372036854775808 ≤ dval (body s)) (fun v hv h => ?_) (by omega)]
       ·rfl
       ·have hI := hv.1
        unfold I64 at hI
        have h2 := (dtext_dig v.natAbs).2
        rw [← (canon_iff hv).2] at h2
        have h3 := (canon_iff hv).1
        rw [hn'] at h3
        have := of_decide_eq_false h3.symm
        omega
      ·rw [decide_eq_false hmax, if_neg (by decide)]
       have hsv : sval s = (dval (body s) : Int) := by unfold sval; rw [if_neg hn]
       have hc : canon s (dval (body s) : Int) := by
        refine ⟨⟨by omega, by omega⟩, ?_⟩
        unfold itext
        rw [if_neg (by omega), show ((dval (body s) : Int)).natAbs = dval (body s) by omega, htext]
        unfold body
        rw [if_neg hn]
       have hbt : b = true := hiff.2 ⟨_, hc⟩
       rw [hbt, if_pos rfl, hsv, i64w (by omega) (by omega)]
    ·rw [if_neg hd, Option.bind_some]
     rw [hbad ((body s).all (fun c => decide (isDig c)) ≠ true) (fun v hv h => ?_) hd]
     ·rfl
     ·refine h (List.all_eq_true.2 fun c hc => decide_eq_true ?_)
      rw [(canon_iff hv).2] at hc
      exact (dtext_dig v.natAbs).1 c hc

end Go.Pu
