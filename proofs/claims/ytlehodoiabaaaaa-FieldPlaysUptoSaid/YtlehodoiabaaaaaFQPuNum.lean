import Derived.Test.YtlehodoiabaaaaaFQPuBase
import Derived.Test.YtlehodoiabaaaaaFQC
import Derived.Test.YtlehodoiabaaaaaFQPuStrL
set_option maxRecDepth 100000
namespace Go.Pu
open Go.Lift

def dval (s : List UInt8) : Nat := s.foldl (fun n c => 10 * n + (c.toNat - 48)) 0
def isDig (c : UInt8) : Prop := 48 ≤ c.toNat ∧ c.toNat ≤ 57
instance (c : UInt8) : Decidable (isDig c) := inferInstanceAs (Decidable (_ ∧ _))
theorem dval_nil : dval [] = 0 := rfl
theorem dval_snoc (s : List UInt8) (c : UInt8) : dval (s ++ [c]) = 10 * dval s + (c.toNat - 48) := by simp [dval, List.foldl_append]
theorem dval_one (c : UInt8) : dval [c] = c.toNat - 48 := by simp [dval]

theorem dval_take_le (s : List UInt8) (i : Nat) : dval (s.take i) ≤ dval s := by
 have : ∀ (k : Nat), dval (s.take i) ≤ dval (s.take (i + k)) := by
  intro k
  induction k with
  | zero => exact Nat.le_refl _
  | succ k ih =>
   rw [show i + (k + 1) = (i + k) + 1 by omega, List.take_add_one]
   cases h : s[i + k]? with
   | none => simpa using ih
   | some c => simp only [Option.toList_some]; rw [dval_snoc]; omega
 have h := this s.length
 rwa [List.take_of_length_le (i := i + s.length) (by omega)] at h

def dtext (v : Nat) : List UInt8 := if h : v < 10 then [UInt8.ofNat (48 + v)] else dtext (v / 10) ++ [UInt8.ofNat (48 + v % 10)]
termination_by v
theorem dtext_small {v : Nat} (h : v < 10) : dtext v = [UInt8.ofNat (48 + v)] := by rw [dtext, dif_pos h]
theorem dtext_big {v : Nat} (h : ¬ v < 10) : dtext v = dtext (v / 10) ++ [UInt8.ofNat (48 + v % 10)] := by rw [dtext, dif_neg h]

theorem dtext_len : ∀ (v : Nat), 1 ≤ (dtext v).length ∧ (dtext v).length ≤ v + 1
 | v => by
  by_cases h : v < 10
  ·rw [dtext_small h]; simp
  ·rw [dtext_big h]
   have := dtext_len (v / 10)
   simp; omega
termination_by v => v

theorem dtext_len2 : ∀ (k v : Nat), v < 10 ^ (k + 1) → (dtext v).length ≤ k + 1
 | 0, v, h => by rw [dtext_small (by omega)]; simp
 | k + 1, v, h => by
  by_cases h1 : v < 10
  ·rw [dtext_small h1]; simp
  ·rw [dtext_big h1]
   have := dtext_len2 k (v / 10) (by rw [Nat.pow_succ] at h; omega)
   simp; omega

theorem dtext_head {v : Nat} (h : 0 < v) : (dtext v).head? ≠ some 48 := by
 by_cases h1 : v < 10
 ·rw [dtext_small h1]
  have : ∀ d : Fin 10, 0 < d.val → ([UInt8.ofNat (48 + d.val)] : List UInt8).head? ≠ some 48 := by decide
  exact this ⟨v, h1⟩ h
 ·rw [dtext_big h1]
  have ih := dtext_head (v := v / 10) (by omega)
  have hl := (dtext_len (v / 10)).1
  cases hd : dtext (v / 10) with
  | nil => rw [hd] at hl; simp at hl
  | cons a l => rw [hd] at ih; simpa using ih
termination_by v

theorem isDig_ofNat (d : Nat) (h : d < 10) : isDig (UInt8.ofNat (48 + d)) ∧ (UInt8.ofNat (48 + d)).toNat = 48 + d := by
 have : ∀ d : Fin 10, isDig (UInt8.ofNat (48 + d.val)) ∧ (UInt8.ofNat (48 + d.val)).toNat = 48 + d.val := by decide
 exact this ⟨d, h⟩

theorem dtext_dig : ∀ (v : Nat), (∀ c ∈ dtext v, isDig c) ∧ dval (dtext v) = v
 | v => by
  by_cases h : v < 10
  ·have := isDig_ofNat v h
   rw [dtext_small h]
   refine ⟨by simpa using this.1, ?_⟩
   rw [dval_one, this.2]; omega
  ·have ih := dtext_dig (v / 10)
   have := isDig_ofNat (v % 10) (by omega)
   rw [dtext_big h]
   refine ⟨fun c hc => ?_, ?_⟩
   ·rcases List.mem_append.1 hc with hc | hc
    ·exact ih.1 c hc
    ·rw [List.mem_singleton] at hc; subst hc; exact this.1
   ·rw [dval_snoc, ih.2, this.2]; omega
termination_by v => v

theorem dval_pos : ∀ (s : List UInt8), s ≠ [] → (∀ c ∈ s, isDig c) → s.head? ≠ some 48 → 0 < dval s := by
 intro s h0 hd hh
 cases s with
 | nil => exact absurd rfl h0
 | cons c t =>
  have h1 : isDig c := hd c (by simp)
  have h2 : c.toNat ≠ 48 := fun e => hh (by simp; exact UInt8.toNat_inj.1 (by simpa using e))
  have := dval_take_le (c :: t) 1
  simp only [List.take_succ_cons, List.take_zero] at this
  rw [dval_one] at this
  have := h1.1
  omega

/-- A decimal is the text of its value. -/
theorem dtext_dval : ∀ (n : Nat) (s : List UInt8), s.length = n + 1 → (∀ c ∈ s, isDig c) → (n = 0 ∨ s.head? ≠ some 48) → dtext (dval s) = s
 | 0, s, hl, hd, _ => by
  match s, hl with
  | [c], _ =>
   have h1 := hd c (by simp)
   rw [dval_one, dtext_small (by have := h1.2; omega), show 48 + (c.toNat - 48) = c.toNat by have := h1.1; omega]
   simp
 | n + 1, s, hl, hd, hh => by
  have hne : s ≠ [] := by intro e; rw [e] at hl; simp at hl
  obtain ⟨t, c, rfl⟩ : ∃ t c, s = t ++ [c] := ⟨s.dropLast, s.getLast hne, (List.dropLast_concat_getLast hne).symm⟩
  have htl : t.length = n + 1 := by simpa using hl
  have htne : t ≠ [] := by intro e; rw [e] at htl; simp at htl
  have hth : t.head? ≠ some 48 := by
   rcases hh with h | h
   ·omega
   ·cases t with
    | nil => exact absurd rfl htne
    | cons a t => simpa using h
  have htd : ∀ x ∈ t, isDig x := fun x hx => hd x (by simp [hx])
  have ih := dtext_dval n t htl htd (.inr hth)
  have hp := dval_pos t htne htd hth
  have hc := hd c (by simp)
  have h1 := hc.1
  have h2 := hc.2
  rw [dval_snoc, dtext_big (by omega), show (10 * dval t + (c.toNat - 48)) / 10 = dval t by omega, show (10 * dval t + (c.toNat - 48)) % 10 = c.toNat - 48 by omega, ih, show 48 + (c.toNat - 48) = c.toNat by omega]
  simp

/-! ### Text -/
theorem rDigits_mono : ∀ (k : Nat) (n : Int), OLe (mewsref01.digits.rec k n) (mewsref01.digits.rec (k + 1) n)
 | 0, n => OLe.none
 | k + 1, n => by
  intro r hr
  rw [mewsref01.digits.rec] at hr ⊢
  by_cases h : (-10) < n
  ·rw [if_pos h] at hr ⊢; exact hr
  ·rw [if_neg h] at hr ⊢
   cases h1 : mewsref01.digits.rec k (IntKind.wrap .i64 (n.tdiv 10)) with
   | none => rw [h1] at hr; simp at hr
   | some q => rw [h1] at hr; rw [rDigits_mono k _ q h1]; exact hr

theorem signs_at (d : Nat) (h : d < 10) : sub ([48, 49, 50, 51, 52, 53, 54, 55, 56, 57] : List UInt8) (d : Int) ((d : Int) + 1) = [UInt8.ofNat (48 + d)] := by
 have : ∀ d : Fin 10, sub ([48, 49, 50, 51, 52, 53, 54, 55, 56, 57] : List UInt8) (d.val : Int) ((d.val : Int) + 1) = [UInt8.ofNat (48 + d.val)] := by decide
 exact this ⟨d, h⟩

theorem neg_tmod10 (v : Nat) : (-(v : Int)).tmod 10 = -((v % 10 : Nat) : Int) := by
 rw [Int.neg_tmod]; congr 1
theorem neg_tdiv10 (v : Nat) : (-(v : Int)).tdiv 10 = -((v / 10 : Nat) : Int) := by
 rw [Int.neg_tdiv]; congr 1

theorem rDigits_eq (v : Nat) (h : v < 9223372036854775808) : ∃ k, mewsref01.digits.rec k (-(v : Int)) = some (dtext v) := by
 have hw : IntKind.wrap .i64 (0 - (-(v : Int)).tmod 10) = ((v % 10 : Nat) : Int) := by
  rw [neg_tmod10, i64w (by omega) (by omega)]; omega
 have hm := Nat.mod_lt v (y := 10) (by omega)
 by_cases h1 : v < 10
 ·refine ⟨1, ?_⟩
  rw [mewsref01.digits.rec, if_pos (by omega), hw, i64w (n := ((v % 10 : Nat) : Int) + 1) (by omega) (by omega), need_eq ⟨by omega, by omega, by show ((v % 10 : Nat) : Int) + 1 ≤ 10; omega⟩]
  simp only [letO]
  rw [signs_at _ hm, dtext_small h1, show v % 10 = v by omega]
 ·obtain ⟨k, hk⟩ := rDigits_eq (v / 10) (by omega)
  refine ⟨k + 1, ?_⟩
  rw [mewsref01.digits.rec, if_neg (by omega), neg_tdiv10, i64w (n := -((v / 10 : Nat) : Int)) (by omega) (by omega), hk, Option.bind_some, hw, i64w (n := ((v % 10 : Nat) : Int) + 1) (by omega) (by omega), need_eq ⟨by omega, by omega, by show ((v % 10 : Nat) : Int) + 1 ≤ 10; omega⟩]
  simp only [letO]
  have := dtext_len2 18 (v / 10) (by omega)
  rw [signs_at _ hm, need_eq (by simp only [List.length_singleton]; omega), ← dtext_big h1]
termination_by v

theorem rText_eq (v : Nat) (h : v < 9223372036854775808) : mewsref01.Text (v : Int) = some (dtext v) := by
 unfold mewsref01.Text
 obtain ⟨k, hk⟩ := rDigits_eq v h
 rw [if_neg (by omega), show (0 : Int) - (v : Int) = -(v : Int) by omega, i64w (by omega) (by omega)]
 unfold mewsref01.digits
 rw [fixO_eq (fun k => rDigits_mono k _) hk]
 rfl

/-! ### Parse of digits -/
theorem rParse_digits (s : List UInt8) (hd : ∀ c ∈ s, isDig c) (hv : dval s ≤ 1000000000000) (hl : s.length < 1000000000000) :
  mewsref01.Parse s = some (if dtext (dval s) = s then ((dval s : Int), true) else (0, false)) := by
 have hbix : ∀ i (hi : i < s.length), 48 ≤ bix s (i : Int) ∧ bix s (i : Int) ≤ 57 ∧ bix s (i : Int) = (s[i].toNat : Int) := by
  intro i hi
  have := hd s[i] (List.getElem_mem hi)
  rw [bix_get' hi]
  obtain ⟨h1, h2⟩ := this
  omega
 unfold mewsref01.Parse
 have hm : (if 0 < (s.length : Int) then need (InB 0 s.length) (some (decide ((bix s 0) = 45))) else some false) = some false := by
  by_cases h0 : 0 < s.length
  ·have := (hbix 0 h0).1
   rw [if_pos (by omega), need_eq ⟨by omega, by omega⟩, decide_eq_false (by rw [show (0 : Int) = ((0 : Nat) : Int) from rfl]; omega)]
  ·rw [if_neg (by omega)]
 rw [hm]
 simp only [Option.bind_some]
 have hloop : mewsref01.Parse.loop0 s false ⟨0, 0⟩ = some (.inl (-(dval s : Int))) := by
  unfold mewsref01.Parse.loop0
  refine whileO_knownE ⟨0, 0⟩ (fun i => (⟨-(dval (s.take i) : Int), (i : Int)⟩ : mewsref01.Parse.S0)) s.length (fun i hi => ?_) ?_ (by simp [dval])
  ·obtain ⟨h1, h2, h3⟩ := hbix i hi
   have htk := dval_take_le s (i + 1)
   have htk0 := dval_take_le s i
   have hsn : dval (s.take (i + 1)) = 10 * dval (s.take i) + (s[i].toNat - 48) := by
    rw [List.take_add_one, List.getElem?_eq_getElem hi]; simp only [Option.toList_some]; rw [dval_snoc]
   have hdg := hd s[i] (List.getElem_mem hi)
   obtain ⟨g1, g2⟩ := hdg
   have e1 : IntKind.wrap .i64 (IntKind.wrap .u8 (bix s (i : Int) - 48)) = ((s[i].toNat - 48 : Nat) : Int) := by
    rw [u8w (by omega) (by omega), i64w (by omega) (by omega)]; omega
   have e2 : (IntKind.wrap .i64 ((-9223372036854775808) + ((s[i].toNat - 48 : Nat) : Int))).tdiv 10 ≤ -922337203685477578 := by
    rw [i64w (by omega) (by omega)]
    have : (-9223372036854775808 : Int) + ((s[i].toNat - 48 : Nat) : Int) = -((9223372036854775808 - (s[i].toNat - 48) : Nat) : Int) := by omega
    rw [this, neg_tdiv10]; omega
   have e3 : -922337203685477580 ≤ (IntKind.wrap .i64 ((-9223372036854775808) + ((s[i].toNat - 48 : Nat) : Int))).tdiv 10 := by
    rw [i64w (by omega) (by omega)]
    have : (-9223372036854775808 : Int) + ((s[i].toNat - 48 : Nat) : Int) = -((9223372036854775808 - (s[i].toNat - 48) : Nat) : Int) := by omega
    rw [this, neg_tdiv10]; omega
   unfold mewsref01.Parse.body0
   simp only [letO]
   rw [if_pos (by omega), need_eq ⟨by omega, by omega⟩, need_eq ⟨by omega, by omega⟩, need_eq ⟨by omega, by omega⟩, e1]
   have e0 : (if (i : Int) = 0 then false else false) = false := by split <;> rfl
   rw [e0]
   simp only [Bool.false_eq_true, if_false]
   rw [if_neg (by omega)]
   simp only [Option.bind_some]
   rw [decide_eq_false (by omega)]
   simp only [Bool.false_eq_true, if_false]
   rw [i64w (n := Int.tdiv _ _) (by omega) (by omega), if_neg (by omega), i64w (n := (i : Int) + 1) (by omega) (by omega), i64w (n := -(dval (s.take i) : Int) * 10) (by omega) (by omega), i64w (n := _ - _) (by omega) (by omega)]
   simp only [Option.bind_some, onSum]
   have e4 : -(dval (s.take i) : Int) * 10 - ((s[i].toNat - 48 : Nat) : Int) = -(dval (s.take (i + 1)) : Int) := by omega
   rw [e4]; rfl
  ·unfold mewsref01.Parse.body0
   simp only
   rw [if_neg (by omega), List.take_length]
 rw [hloop]
 simp only [Option.bind_some, onSum, letO, Bool.not_false, if_true]
 rw [decide_eq_false (by omega)]
 simp only [Bool.false_eq_true, if_false]
 rw [show (0 : Int) - -(dval s : Int) = (dval s : Int) by omega, i64w (by omega) (by omega), rText_eq _ (by omega)]
 simp only [Option.bind_some]
 split <;> rfl

theorem rParse_nil : mewsref01.Parse [] = some (0, false) := by
 rw [rParse_digits [] (by simp) (by simp [dval]) (by simp), if_neg]
 have := (dtext_len (dval [])).1
 intro e
 rw [e] at this
 simp at this

theorem rParse_canon {s : List UInt8} (hne : s ≠ []) (hd : ∀ c ∈ s, isDig c) (hv : dval s ≤ 1000000000000) (hl : s.length < 1000000000000) (hc : s.length = 1 ∨ s.head? ≠ some 48) : mewsref01.Parse s = some ((dval s : Int), true) := by
 rw [rParse_digits s hd hv hl, if_pos]
 cases hs : s.length with
 | zero => exact absurd (List.length_eq_zero_iff.1 hs) hne
 | succ n => exact dtext_dval n s hs hd (hc.imp (fun h => by omega) id)

theorem rParse_zero {s : List UInt8} (hd : ∀ c ∈ s, isDig c) (hv : dval s ≤ 1000000000000) (hl : s.length < 1000000000000) (h2 : 2 ≤ s.length) (hh : s.head? = some 48) : mewsref01.Parse s = some (0, false) := by
 rw [rParse_digits s hd hv hl, if_neg]
 intro e
 by_cases h0 : dval s = 0
 ·rw [h0, dtext_small (by omega)] at e
  rw [← e] at h2; simp at h2
 ·have := dtext_head (v := dval s) (by omega)
  rw [e] at this
  exact this hh

end Go.Pu

set_option maxHeartbeats 0
set_option maxRecDepth 100000
namespace Go.Pu
open Go.Lift

def I64 (v : Int) : Prop := -9223372036854775808 ≤ v ∧ v < 9223372036854775808
/-- A number's text. -/
def itext (v : Int) : Str := if v < 0 then 45 :: dtext v.natAbs else dtext v.natAbs

theorem rDigits_eqB (v : Nat) (h : v ≤ 9223372036854775808) : ∃ k, mewsref01.digits.rec k (-(v : Int)) = some (dtext v) := by
 have hw : IntKind.wrap .i64 (0 - (-(v : Int)).tmod 10) = ((v % 10 : Nat) : Int) := by
  rw [neg_tmod10, i64w (by omega) (by omega)]; omega
 have hm := Nat.mod_lt v (y := 10) (by omega)
 by_cases h1 : v < 10
 ·refine ⟨1, ?_⟩
  rw [mewsref01.digits.rec, if_pos (by omega), hw, i64w (n := ((v % 10 : Nat) : Int) + 1) (by omega) (by omega), need_eq ⟨by omega, by omega, by show ((v % 10 : Nat) : Int) + 1 ≤ 10; omega⟩]
  simp only [letO]
  rw [signs_at _ hm, dtext_small h1, show v % 10 = v by omega]
 ·obtain ⟨k, hk⟩ := rDigits_eqB (v / 10) (by omega)
  refine ⟨k + 1, ?_⟩
  rw [mewsref01.digits.rec, if_neg (by omega), neg_tdiv10, i64w (n := -((v / 10 : Nat) : Int)) (by omega) (by omega), hk, Option.bind_some, hw, i64w (n := ((v % 10 : Nat) : Int) + 1) (by omega) (by omega), need_eq ⟨by omega, by omega, by show ((v % 10 : Nat) : Int) + 1 ≤ 10; omega⟩]
  simp only [letO]
  have := dtext_len2 18 (v / 10) (by omega)
  rw [signs_at _ hm, need_eq (by simp only [List.length_singleton]; omega), ← dtext_big h1]
termination_by v

theorem rTextI (v : Int) (h : I64 v) : mewsref01.Text v = some (itext v) := by
 obtain ⟨h1, h2⟩ := h
 obtain ⟨k, hk⟩ := rDigits_eqB v.natAbs (by omega)
 unfold mewsref01.Text itext
 by_cases hn : v < 0
 ·rw [if_pos hn, if_pos hn]
  rw [show -((v.natAbs : Nat) : Int) = v by omega] at hk
  unfold mewsref01.digits
  have := dtext_len2 18 v.natAbs (by omega)
  rw [fixO_eq (fun k => rDigits_mono k _) hk, Option.bind_some, need_eq (by simp only [List.length_singleton]; omega)]
  rfl
 ·rw [if_neg hn, if_neg hn, i64w (by omega) (by omega)]
  rw [show -((v.natAbs : Nat) : Int) = 0 - v by omega] at hk
  unfold mewsref01.digits
  rw [fixO_eq (fun k => rDigits_mono k _) hk]
  rfl

/-! ### A sign and digits -/
def negB (s : Str) : Bool := match s with | c :: _ => decide (c = 45) | [] => false
def body (s : Str) : Str := if negB s = true then s.drop 1 else s

theorem bix45 {s : Str} (h : 0 < s.length) : decide (bix s 0 = 45) = negB s := by
 cases s with
 | nil => cases h
 | cons c t =>
  show decide ((c.toNat : Int) = 45) = decide (c = 45)
  congr 1
  refine propext ⟨fun h => UInt8.toNat_inj.1 (by show c.toNat = 45; omega), fun h => by rw [h]; rfl⟩

theorem body_itext {v : Int} : negB (itext v) = decide (v < 0) ∧ body (itext v) = dtext v.natAbs := by
 have hd : negB (dtext v.natAbs) = false := by
  have h1 := (dtext_dig v.natAbs).1
  cases h : dtext v.natAbs with
  | nil => rfl
  | cons c t =>
   have hc := h1 c (by rw [h]; simp)
   show decide (c = 45) = false
   refine decide_eq_false fun e => ?_
   subst e
   exact absurd hc (by decide)
 unfold body itext
 by_cases hn : v < 0
 ·rw [if_pos hn, decide_eq_true hn]
  exact ⟨rfl, rfl⟩
 ·rw [if_neg hn, hd, decide_eq_false hn]
  exact ⟨rfl, rfl⟩

/-- What a text tells, if it tells a number: both Parses. -/
def canon (s : Str) (v : Int) : Prop := I64 v ∧ s = itext v

theorem canon_iff {s : Str} {v : Int} (h : canon s v) : negB s = decide (v < 0) ∧ body s = dtext v.natAbs := by
 rw [h.2]; exact body_itext

theorem dval_drop_le (s : Str) (i j : Nat) : dval ((s.take i).drop j) ≤ dval (s.drop j) := by
 rw [List.drop_take]
 exact dval_take_le _ _

theorem rLoop_eq (s : Str) (hl : s.length < 1000000000000000) :
  ∃ q, mewsref01.Parse.loop0 s (negB s) ⟨0, 0⟩ = some q ∧ ((q = .inr (0, false) ∧ ((∃ c, c ∈ body s ∧ ¬ isDig c) ∨ 9223372036854775808 < dval (body s))) ∨ (q = .inl (-(dval (body s) : Int)) ∧ dval (body s) ≤ 9223372036854775808)) := by
 -- where the digits begin
 obtain ⟨j, hj, hb⟩ : ∃ j, (j = if negB s = true then 1 else 0) ∧ body s = s.drop j := by
  refine ⟨_, rfl, ?_⟩
  unfold body
  by_cases hn : negB s = true
  ·rw [if_pos hn, if_pos hn]
  ·rw [if_neg hn, if_neg hn]; rfl
 have hjl : j ≤ s.length := by
  rw [hj]
  by_cases hn : negB s = true
  ·rw [if_pos hn]
   cases s with
   | nil => cases hn
   | cons c t => simp
  ·rw [if_neg hn]; omega
 rw [hb]
 unfold mewsref01.Parse.loop0
 refine whileO_meas (fun t => ∃ i : Nat, t.i = (i : Int) ∧ i ≤ s.length ∧ t.n = -(dval ((s.take i).drop j) : Int) ∧ dval ((s.take i).drop j) ≤ 9223372036854775808) (fun t => s.length - t.i.toNat) _ (fun t => ?_) _ ⟨0, rfl, by omega, by simp [dval], by simp [dval]⟩
 obtain ⟨tn, ti⟩ := t
 rintro ⟨i, e, hi, hn, hle⟩
 replace e : ti = (i : Int) := e
 replace hn : tn = -(dval ((s.take i).drop j) : Int) := hn
 subst e hn
 unfold mewsref01.Parse.body0
 by_cases hc : i < s.length
 ·simp only [letO]
  rw [if_pos (by omega)]
  have hw : IntKind.wrap .i64 ((i : Int) + 1) = ((i + 1 : Nat) : Int) := by rw [i64w (by omega) (by omega)]; omega
  by_cases hskip : (if (i : Int) = 0 then negB s else false) = true
  ·rw [if_pos hskip]
   have hi0 : i = 0 := by
    by_cases h : (i : Int) = 0
    ·omega
    ·rw [if_neg h] at hskip; cases hskip
   subst hi0
   rw [if_pos (by rfl)] at hskip
   have hj1 : j = 1 := by rw [hj, if_pos hskip]
   refine .inl ⟨⟨-(dval ((s.take 0).drop j) : Int), IntKind.wrap .i64 (((0 : Nat) : Int) + 1)⟩, rfl, ⟨1, hw, by omega, ?_, ?_⟩, ?_⟩
   ·show -(dval ((s.take 0).drop j) : Int) = -(dval ((s.take 1).drop j) : Int)
    rw [hj1, List.drop_eq_nil_of_le (by rw [List.length_take]; omega), List.drop_eq_nil_of_le (by rw [List.length_take]; omega)]
   ·rw [hj1, List.drop_eq_nil_of_le (by rw [List.length_take]; omega)]
    decide
   ·show s.length - (IntKind.wrap .i64 (((0 : Nat) : Int) + 1)).toNat < s.length - ((0 : Nat) : Int).toNat
    rw [hw]; omega
  ·rw [if_neg hskip]
   have hji : j ≤ i := by
    rw [hj]
    by_cases h0 : i = 0
    ·subst h0
     rw [if_pos (by rfl)] at hskip
     rw [if_neg hskip]; omega
    ·split <;> omega
   have hmem : s[i] ∈ s.drop j := by
    rw [List.mem_iff_getElem]
    refine ⟨i - j, by rw [List.length_drop]; omega, ?_⟩
    rw [List.getElem_drop]
    congr 1
    omega
   have hsn : (s.take (i + 1)).drop j = (s.take i).drop j ++ [s[i]] := by
    rw [List.take_add_one, List.getElem?_eq_getElem hc, List.drop_append_of_le_length (by rw [List.length_take]; omega)]
    rfl
   rw [need_eq ⟨by omega, by omega⟩, need_eq ⟨by omega, by omega⟩, need_eq ⟨by omega, by omega⟩, bix_get' hc]
   have hlt := s[i].toNat_lt
   by_cases hdig : isDig s[i]
   ·obtain ⟨g1, g2⟩ := hdig
    have e1 : IntKind.wrap .i64 (IntKind.wrap .u8 ((s[i].toNat : Int) - 48)) = ((s[i].toNat - 48 : Nat) : Int) := by
     rw [u8w (by omega) (by omega), i64w (by omega) (by omega)]; omega
    have e2 : (IntKind.wrap .i64 ((-9223372036854775808) + ((s[i].toNat - 48 : Nat) : Int))).tdiv 10 = -(((9223372036854775808 - (s[i].toNat - 48)) / 10 : Nat) : Int) := by
     rw [i64w (by omega) (by omega)]
     have : (-9223372036854775808 : Int) + ((s[i].toNat - 48 : Nat) : Int) = -((9223372036854775808 - (s[i].toNat - 48) : Nat) : Int) := by omega
     rw [this, neg_tdiv10]
    rw [if_neg (by omega), Option.bind_some, decide_eq_false (by omega), if_neg (by decide), e1, e2]
    have hs2 := dval_snoc ((s.take i).drop j) s[i]
    rw [← hsn] at hs2
    generalize hA : dval ((s.take i).drop j) = A at hle hs2
    rw [i64w (n := -(((9223372036854775808 - (s[i].toNat - 48)) / 10 : Nat) : Int)) (by omega) (by omega)]
    by_cases hov : -(A : Int) < -(((9223372036854775808 - (s[i].toNat - 48)) / 10 : Nat) : Int)
    ·rw [if_pos hov]
     refine .inr ⟨.inr (0, false), rfl, .inl ⟨rfl, .inr ?_⟩⟩
     have h1 := dval_drop_le s (i + 1) j
     omega
    ·rw [if_neg hov, i64w (n := -(A : Int) * 10) (by omega) (by omega), i64w (n := -(A : Int) * 10 - _) (by omega) (by omega)]
     refine .inl ⟨⟨-(A : Int) * 10 - ((s[i].toNat - 48 : Nat) : Int), IntKind.wrap .i64 ((i : Int) + 1)⟩, rfl, ⟨i + 1, hw, by omega, ?_, by omega⟩, ?_⟩
     ·show -(A : Int) * 10 - ((s[i].toNat - 48 : Nat) : Int) = -(dval ((s.take (i + 1)).drop j) : Int)
      omega
     ·show s.length - (IntKind.wrap .i64 ((i : Int) + 1)).toNat < s.length - (i : Int).toNat
      rw [hw]; omega
   ·refine .inr ⟨.inr (0, false), ?_, .inl ⟨rfl, .inl ⟨_, hmem, hdig⟩⟩⟩
    unfold isDig at hdig
    by_cases h48 : (s[i].toNat : Int) < 48
    ·rw [if_pos h48]; rfl
    ·rw [if_neg h48, Option.bind_some, decide_eq_true (by omega)]; rfl
 ·rw [if_neg (show ¬ (i : Int) < (s.length : Int) by omega)]
  rw [List.take_of_length_le (by omega)] at hle ⊢
  exact .inr ⟨_, rfl, .inr ⟨rfl, hle⟩⟩

theorem rHead (s : Str) : (if 0 < (s.length : Int) then need (InB 0 s.length) (some (decide ((bix s 0) = 45))) else some false : Option Bool) = some (negB s) := by
 by_cases h0 : 0 < s.length
 ·rw [if_pos (by omega), need_eq ⟨by omega, by omega⟩, bix45 h0]
 ·have : s = [] := List.length_eq_zero_iff.1 (by omega)
  subst this
  rfl

/-- The value that a sign and digits tell. -/
def sval (s : Str) : Int := if negB s = true then -(dval (body s) : Int) else (dval (body s) : Int)

theorem rParseI (s : Str) (hl : s.length < 1000000000000000) : ∃ b : Bool, mewsref01.Parse s = some (if b then (sval s, true) else (0, false)) ∧ (b = true ↔ ∃ v, canon s v) ∧ (b = true → canon s (sval s)) := by
 obtain ⟨q, hq, h⟩ := rLoop_eq s hl
 have hcan : ∀ v, canon s v → (∀ c, c ∈ body s → isDig c) ∧ dval (body s) = v.natAbs ∧ sval s = v := fun v hv => by
  obtain ⟨h1, h2⟩ := canon_iff hv
  obtain ⟨h3, h4⟩ := dtext_dig v.natAbs
  rw [← h2] at h3 h4
  refine ⟨h3, h4, ?_⟩
  unfold sval
  rw [h4, h1]
  by_cases hn : v < 0
  ·rw [if_pos (decide_eq_true hn)]; omega
  ·rw [if_neg (by simpa using hn)]; omega
 unfold mewsref01.Parse
 rw [rHead, Option.bind_some, hq, Option.bind_some]
 rcases h with ⟨rfl, hbad⟩ | ⟨rfl, hle⟩
 ·refine ⟨false, rfl, ⟨(fun h => by cases h), fun ⟨v, hv⟩ => ?_⟩, (fun h => by cases h)⟩
  obtain ⟨h1, h2, _⟩ := hcan v hv
  rcases hbad with ⟨c, hc, hnd⟩ | hbig
  ·exact absurd (h1 c hc) hnd
  ·have := hv.1
   unfold I64 at this
   omega
 ·simp only [onSum, letO]
  by_cases hn : negB s = true
  ·have hs : sval s = -(dval (body s) : Int) := by unfold sval; rw [if_pos hn]
   have hI : I64 (-(dval (body s) : Int)) := ⟨by omega, by omega⟩
   simp only [hn, Bool.not_true, Bool.false_eq_true, if_false]
   rw [rTextI _ hI, Option.bind_some, ← hs]
   rw [← hs] at hI
   by_cases he : itext (sval s) = s
   ·exact ⟨true, by rw [if_pos he]; rfl, ⟨fun _ => ⟨_, hI, he.symm⟩, fun _ => rfl⟩, fun _ => ⟨hI, he.symm⟩⟩
   ·refine ⟨false, by rw [if_neg he]; rfl, ⟨(fun h => by cases h), fun ⟨v, hv⟩ => ?_⟩, (fun h => by cases h)⟩
    obtain ⟨_, _, h3⟩ := hcan v hv
    rw [h3] at he
    exact absurd hv.2.symm he
  ·have hn' : negB s = false := by simpa using hn
   have hs : sval s = (dval (body s) : Int) := by unfold sval; rw [if_neg hn]
   simp only [hn', Bool.not_false, if_true]
   by_cases hmin : -(dval (body s) : Int) = -9223372036854775808
   ·rw [decide_eq_true hmin, if_pos rfl]
    refine ⟨false, rfl, ⟨(fun h => by cases h), fun ⟨v, hv⟩ => ?_⟩, (fun h => by cases h)⟩
    obtain ⟨_, h2, h3⟩ := hcan v hv
    have := hv.1
    unfold I64 at this
    omega
   ·rw [decide_eq_false hmin, if_neg (by decide)]
    have hI : I64 (dval (body s) : Int) := ⟨by omega, by omega⟩
    rw [show (0 : Int) - -(dval (body s) : Int) = (dval (body s) : Int) by omega, i64w hI.1 hI.2, rTextI _ hI, Option.bind_some, ← hs]
    rw [← hs] at hI
    by_cases he : itext (sval s) = s
    ·exact ⟨true, by rw [if_pos he]; rfl, ⟨fun _ => ⟨_, hI, he.symm⟩, fun _ => rfl⟩, fun _ => ⟨hI, he.symm⟩⟩
    ·refine ⟨false, by rw [if_neg he]; rfl, ⟨(fun h => by cases h), fun ⟨v, hv⟩ => ?_⟩, (fun h => by cases h)⟩
     obtain ⟨_, _, h3⟩ := hcan v hv
     rw [h3] at he
     exact absurd hv.2.symm he

/-! ### The program's Parse -/
theorem pLoop_eq (s : Str) (hl : s.length ≤ 19) : num.Parse.loop0 s ⟨0, 0⟩ = some (if s.all (fun c => decide (isDig c)) = true then .inl (dval s : Int) else .inr (0, false)) := by
 have hpow : ∀ (n : Nat) (t : Str), t.length = n → (∀ c, c ∈ t → isDig c) → dval t < 10 ^ t.length := by
  intro n
  induction n with
  | zero =>
   intro t hl _
   have : t = [] := List.length_eq_zero_iff.1 hl
   subst this
   decide
  | succ n ih =>
   intro t hl h
   have hne : t ≠ [] := by intro e; rw [e] at hl; simp at hl
   obtain ⟨u, c, rfl⟩ : ∃ u c, t = u ++ [c] := ⟨t.dropLast, t.getLast hne, (List.dropLast_concat_getLast hne).symm⟩
   have h1 := ih u (by simpa using hl) fun x hx => h x (List.mem_append_left _ hx)
   have h2 := (h c (by simp)).2
   rw [dval_snoc, List.length_append, List.length_singleton, Nat.pow_succ]
   omega
 obtain ⟨q, hq, h⟩ : ∃ q, num.Parse.loop0 s ⟨0, 0⟩ = some q ∧ q = (if s.all (fun c => decide (isDig c)) = true then .inl (dval s : Int) else .inr (0, false)) := by
  unfold num.Parse.loop0
  refine whileO_meas (fun t => ∃ i : Nat, t.t42 = (i : Int) ∧ i ≤ s.length ∧ t.n = (dval (s.take i) : Int) ∧ ∀ c, c ∈ s.take i → isDig c) (fun t => s.length - t.t42.toNat) _ (fun t => ?_) _ ⟨0, rfl, by omega, by simp [dval], by simp⟩
  obtain ⟨tn, ti⟩ := t
  rintro ⟨i, e, hi, hn, hd⟩
  replace e : ti = (i : Int) := e
  replace hn : tn = (dval (s.take i) : Int) := hn
  subst e hn
  unfold num.Parse.body0 letO
  show (∃ s', (if (i : Int) < (s.length : Int) then _ else _ : Option _) = _ ∧ _) ∨ (∃ s', (if (i : Int) < (s.length : Int) then _ else _ : Option _) = _ ∧ _)
  by_cases hc : i < s.length
  ·rw [if_pos (by omega), need_eq ⟨by show (0 : Int) ≤ (i : Int); omega, by show (i : Int) < (s.length : Int); omega⟩]
   show (∃ s', (if (if bix s (i : Int) < 48 then true else decide (57 < bix s (i : Int))) = true then _ else some (Sum.inl (⟨IntKind.wrap .u64 ((IntKind.wrap .u64 ((dval (s.take i) : Int) * 10)) + (IntKind.wrap .u64 (IntKind.wrap .u8 ((bix s (i : Int)) - 48)))), IntKind.wrap .i64 ((i : Int) + 1)⟩ : num.Parse.S0)) : Option _) = _ ∧ _) ∨ (∃ s', (if (if bix s (i : Int) < 48 then true else decide (57 < bix s (i : Int))) = true then some (Sum.inr (Sum.inr ((0 : Int), false))) else _ : Option _) = _ ∧ _)
   rw [bix_get' hc]
   have hlt := s[i].toNat_lt
   by_cases hdig : isDig s[i]
   ·obtain ⟨g1, g2⟩ := hdig
    have hp := hpow _ _ rfl hd
    have hp2 : (10 : Nat) ^ (s.take i).length ≤ 10 ^ 18 := Nat.pow_le_pow_right (by decide) (by rw [List.length_take]; omega)
    have hw : IntKind.wrap .i64 ((i : Int) + 1) = ((i + 1 : Nat) : Int) := by rw [i64w (by omega) (by omega)]; omega
    have hp3 : (10 : Nat) ^ 18 = 1000000000000000000 := by decide
    rw [if_neg (by rw [if_neg (by omega)]; simp; omega), u8w (by omega) (by omega), u64w (n := (s[i].toNat : Int) - 48) (by omega) (by omega), u64w (n := _ * 10) (by omega) (by omega), u64w (by omega) (by omega)]
    refine .inl ⟨_, rfl, ⟨i + 1, hw, by omega, ?_, fun c hc2 => ?_⟩, ?_⟩
    ·show (dval (s.take i) : Int) * 10 + ((s[i].toNat : Int) - 48) = (dval (s.take (i + 1)) : Int)
     rw [List.take_add_one, List.getElem?_eq_getElem hc]
     simp only [Option.toList_some]
     rw [dval_snoc]
     omega
    ·rw [List.take_add_one, List.getElem?_eq_getElem hc] at hc2
     simp only [Option.toList_some] at hc2
     rcases List.mem_append.1 hc2 with hc2 | hc2
     ·exact hd c hc2
     ·simp at hc2; subst hc2; exact ⟨g1, g2⟩
    ·show s.length - (IntKind.wrap .i64 ((i : Int) + 1)).toNat < s.length - (i : Int).toNat
     rw [hw]; omega
   ·right
    have hbad : (if (s[i].toNat : Int) < 48 then true else decide (57 < (s[i].toNat : Int))) = true := by
     unfold isDig at hdig
     by_cases h48 : (s[i].toNat : Int) < 48
     ·rw [if_pos h48]
     ·rw [if_neg h48]; exact decide_eq_true (by omega)
    rw [if_pos hbad]
    refine ⟨_, rfl, ?_⟩
    rw [if_neg]
    intro hall
    have := List.all_eq_true.1 hall s[i] (List.getElem_mem hc)
    exact hdig (of_decide_eq_true this)
  ·rw [if_neg (by omega)]
   rw [List.take_of_length_le (by omega)] at hd ⊢
   refine .inr ⟨_, rfl, ?_⟩
   rw [if_pos]
   exact List.all_eq_true.2 fun c hc => decide_eq_true (hd c hc)
 rw [hq, h]

theorem pParse_eq (s : Str) (hl : s.length < 1000000000000000) : num.Parse s = mewsref01.Parse s := by
 obtain ⟨b, hb, hiff, hcan⟩ := rParseI s hl
 rw [hb]
 have hhead : (if s = ([] : List UInt8) then some false else need (InB 0 s.length) (some (decide ((bix s 0) = 45))) : Option Bool) = some (negB s) := by
  by_cases h : s = []
  ·rw [if_pos h, h]; rfl
  ·have hp : 0 < s.length := List.length_pos_iff.2 h
   rw [if_neg h, need_eq ⟨by omega, by omega⟩, bix45 hp]
 have hbody : (if negB s = true then need (InR 1 (s.length : Int) s.length) (some (sub s 1 (s.length : Int))) else some s : Option Str) = some (body s) := by
  unfold body
  by_cases h : negB s = true
  ·have hp : 0 < s.length := by
    cases s with
    | nil => cases h
    | cons c t => simp
   rw [if_pos h, if_pos h, need_eq ⟨by omega, by omega, by omega⟩, sub_all]
   rfl
  ·rw [if_neg h, if_neg h]
 unfold num.Parse
 rw [hhead, Option.bind_some, hbody, Option.bind_some]
 -- what is no number for a reason of its form
 have hbad : ∀ (P : Prop), (∀ v, canon s v → ¬ P) → P → b = false := fun P h hp => by
  cases b with
  | false => rfl
  | true =>
   obtain ⟨v, hv⟩ := hiff.1 rfl
   exact absurd hp (h v hv)
 have hlen : ∀ v, canon s v → 1 ≤ (body s).length ∧ (body s).length ≤ 19 ∧ ((body s).head? = some 48 → v = 0 ∧ (body s).length = 1) := fun v hv => by
  obtain ⟨h1, h2⟩ := canon_iff hv
  have hI := hv.1
  unfold I64 at hI
  rw [h2]
  refine ⟨(dtext_len _).1, dtext_len2 18 _ (by omega), fun hh => ?_⟩
  by_cases h0 : v.natAbs = 0
  ·refine ⟨by omega, ?_⟩
   rw [h0, dtext_small (by omega)]
   rfl
  ·exact absurd hh (dtext_head (by omega))
 by_cases he : body s = []
 ·rw [if_pos he, Option.bind_some, if_pos rfl, hbad (body s = []) (fun v hv h => by have := (hlen v hv).1; rw [h] at this; simp at this) he]
  rfl
 ·rw [if_neg he]
  by_cases h19 : 19 < (body s).length
  ·rw [if_pos (by omega), Option.bind_some, if_pos rfl, hbad (19 < (body s).length) (fun v hv h => by have := (hlen v hv).2.1; omega) h19]
   rfl
  ·rw [if_neg (by omega)]
   have hp : 0 < (body s).length := List.length_pos_iff.2 he
   rw [need_eq ⟨by omega, by omega⟩]
   have hz : (bix (body s) 0 = 48) ↔ (body s).head? = some 48 := by
    cases hbs : body s with
    | nil => exact absurd hbs he
    | cons c t =>
     show ((c.toNat : Int) = 48) ↔ _
     simp only [List.head?_cons, Option.some.injEq]
     exact ⟨fun h => UInt8.toNat_inj.1 (by show c.toNat = 48; omega), fun h => by rw [h]; rfl⟩
   by_cases hbad2 : (body s).head? = some 48 ∧ (negB s = true ∨ 1 < (body s).length)
   ·have hb2 : (if bix (body s) 0 = 48 then (if negB s = true then some true else some (decide (1 < ((body s).length : Int)))) else some false : Option Bool) = some true := by
     rw [if_pos (hz.2 hbad2.1)]
     rcases hbad2.2 with h | h
     ·rw [if_pos h]
     ·by_cases hn : negB s = true
      ·rw [if_pos hn]
      ·rw [if_neg hn, decide_eq_true (by omega)]
    rw [hb2, Option.bind_some, if_pos rfl, hbad _ (fun v hv h => ?_) hbad2]
    ·rfl
    ·obtain ⟨h0, h1⟩ := (hlen v hv).2.2 h.1
     have hng := (canon_iff hv).1
     rw [h0] at hng
     rcases h.2 with h | h
     ·rw [h] at hng; cases hng
     ·omega
   ·have hb2 : (if bix (body s) 0 = 48 then (if negB s = true then some true else some (decide (1 < ((body s).length : Int)))) else some false : Option Bool) = some false := by
     by_cases h48 : bix (body s) 0 = 48
     ·rw [if_pos h48]
      have h1 : ¬ (negB s = true ∨ 1 < (body s).length) := fun h => hbad2 ⟨hz.1 h48, h⟩
      rw [if_neg (fun h => h1 (.inl h)), decide_eq_false (fun h => h1 (.inr (by omega)))]
     ·rw [if_neg h48]
    rw [hb2, Option.bind_some, if_neg (by decide), pLoop_eq _ (by omega)]
    by_cases hd : (body s).all (fun c => decide (isDig c)) = true
    ·rw [if_pos hd, Option.bind_some]
     have hdig : ∀ c, c ∈ body s → isDig c := fun c hc => of_decide_eq_true (List.all_eq_true.1 hd c hc)
     have htext : dtext (dval (body s)) = body s := by
      refine dtext_dval ((body s).length - 1) _ (by omega) hdig ?_
      by_cases h1 : (body s).head? = some 48
      ·left
       have : ¬ (1 < (body s).length) := fun h => hbad2 ⟨h1, .inr h⟩
       omega
      ·exact .inr h1
     have hlen19 : dval (body s) < 10000000000000000000 := by
      have : ∀ (n : Nat), 10 ^ n ≤ dval (body s) → n < (dtext (dval (body s))).length := by
       intro n
       generalize dval (body s) = v
       induction n generalizing v with
       | zero => intro h; exact (dtext_len v).1
       | succ n ih =>
        intro h
        rw [Nat.pow_succ] at h
        have hp : 0 < 10 ^ n := Nat.pow_pos (by decide)
        rw [dtext_big (by omega), List.length_append, List.length_singleton]
        have := ih (v / 10) (by omega)
        omega
      have h19' := this 19
      rw [htext] at h19'
      have h10 : (10 : Nat) ^ 19 = 10000000000000000000 := by decide
      omega
     simp only [onSum, letO]
     by_cases hn : negB s = true
     ·simp only [hn, if_true]
      by_cases hmax : (dval (body s) : Int) ≤ 9223372036854775808
      ·rw [decide_eq_true hmax, if_pos rfl]
       have hsv : sval s = -(dval (body s) : Int) := by unfold sval; rw [if_pos hn]
       have hpos : 0 < dval (body s) := by
        refine dval_pos _ he hdig fun h1 => hbad2 ⟨h1, .inl hn⟩
       have hc : canon s (-(dval (body s) : Int)) := by
        refine ⟨⟨by omega, by omega⟩, ?_⟩
        unfold itext
        rw [if_pos (by omega), show (-(dval (body s) : Int)).natAbs = dval (body s) by omega, htext]
        unfold body
        rw [if_pos hn]
        cases s with
        | nil => cases hn
        | cons c t =>
         have : c = 45 := of_decide_eq_true hn
         rw [this]; rfl
       have hbt : b = true := hiff.2 ⟨_, hc⟩
       rw [hbt, if_pos rfl, hsv]
       have hwr : IntKind.wrap .i64 (0 - IntKind.wrap .i64 (dval (body s) : Int)) = -(dval (body s) : Int) := by
        rw [IntKind.wrap_i64, IntKind.wrap_i64]
        omega
       rw [hwr]
      ·rw [decide_eq_false hmax, if_neg (by decide)]
       rw [hbad (9223372036854775808 < dval (body s)) (fun v hv h => ?_) (by omega)]
       ·rfl
       ·have hI := hv.1
        unfold I64 at hI
        have := (dtext_dig v.natAbs).2
        rw [← (canon_iff hv).2] at this
        omega
     ·have hn' : negB s = false := by simpa using hn
      simp only [hn', Bool.false_eq_true, if_false]
      by_cases hmax : (9223372036854775808 : Int) ≤ (dval (body s) : Int)
      ·rw [decide_eq_true hmax, if_pos rfl]
       rw [hbad (9223372036854775808 ≤ dval (body s)) (fun v hv h => ?_) (by omega)]
       ·rfl
       ·have hI := hv.1
        unfold I64 at hI
        have h2 := (dtext_dig v.natAbs).2
        rw [← (canon_iff hv).2] at h2
        have h3 := (canon_iff hv).1
        rw [hn'] at h3
        have := of_decide_eq_false h3.symm
        omega
      ·rw [decide_eq_false hmax, if_neg (by decide)]
       have hsv : sval s = (dval (body s) : Int) := by unfold sval; rw [if_neg hn]
       have hc : canon s (dval (body s) : Int) := by
        refine ⟨⟨by omega, by omega⟩, ?_⟩
        unfold itext
        rw [if_neg (by omega), show ((dval (body s) : Int)).natAbs = dval (body s) by omega, htext]
        unfold body
        rw [if_neg hn]
       have hbt : b = true := hiff.2 ⟨_, hc⟩
       rw [hbt, if_pos rfl, hsv, i64w (by omega) (by omega)]
    ·rw [if_neg hd, Option.bind_some]
     rw [hbad ((body s).all (fun c => decide (isDig c)) ≠ true) (fun v hv h => ?_) hd]
     ·rfl
     ·refine h (List.all_eq_true.2 fun c hc => decide_eq_true ?_)
      rw [(canon_iff hv).2] at hc
      exact (dtext_dig v.natAbs).1 c hc

end Go.Pu

set_option maxHeartbeats 0
set_option maxRecDepth 100000
namespace Go.Pu
open Go.Lift

theorem addBoth {a b : Int} (ha : I64 a) (hb : I64 b) : ∃ v ok, num.Add a b = some (v, ok) ∧ mewsref01.Add a b = some (v, ok) ∧ (ok = true → I64 v ∧ v = a + b) ∧ (I64 (a + b) → ok = true) := by
 obtain ⟨a1, a2⟩ := ha
 obtain ⟨b1, b2⟩ := hb
 unfold num.Add mewsref01.Add letO
 by_cases h1 : a + b < -9223372036854775808
 ·refine ⟨0, false, ?_, ?_, (fun h => by cases h), fun h => by unfold I64 at h; omega⟩
  ·rw [IntKind.wrap_i64, decide_eq_true (show a < (a + b + 9223372036854775808) % 18446744073709551616 - 9223372036854775808 by omega), decide_eq_false (show ¬ 0 < b by omega), if_pos (by rfl), decide_eq_false (show ¬ b = 0 by omega)]
   rfl
  ·rw [if_neg (show ¬ 0 < b by omega), if_pos (show b < 0 by omega), i64w (n := -9223372036854775808 - b) (by omega) (by omega), decide_eq_true (by omega)]
   rfl
 ·by_cases h2 : 9223372036854775808 ≤ a + b
  ·refine ⟨0, false, ?_, ?_, (fun h => by cases h), fun h => by unfold I64 at h; omega⟩
   ·rw [IntKind.wrap_i64, decide_eq_false (show ¬ a < (a + b + 9223372036854775808) % 18446744073709551616 - 9223372036854775808 by omega), decide_eq_true (show 0 < b by omega), if_pos (by rfl), decide_eq_false (show ¬ b = 0 by omega)]
    rfl
   ·rw [if_pos (show 0 < b by omega), i64w (n := 9223372036854775807 - b) (by omega) (by omega), if_pos (by omega)]
    rfl
  ·refine ⟨a + b, true, ?_, ?_, fun _ => ⟨⟨by omega, by omega⟩, rfl⟩, fun _ => rfl⟩
   ·rw [i64w (n := a + b) (by omega) (by omega)]
    have : decide (a < a + b) = decide (0 < b) := by
     congr 1
     exact propext ⟨fun h => by omega, fun h => by omega⟩
    rw [this]
    simp
   ·rw [i64w (n := a + b) (by omega) (by omega)]
    by_cases h3 : 0 < b
    ·rw [if_pos h3, i64w (n := 9223372036854775807 - b) (by omega) (by omega), if_neg (by omega), if_neg (by omega)]
     rfl
    ·rw [if_neg h3]
     by_cases h4 : b < 0
     ·rw [if_pos h4, i64w (n := -9223372036854775808 - b) (by omega) (by omega), decide_eq_false (by omega)]
      rfl
     ·rw [if_neg h4]
      rfl

theorem drop_upd {arr : Str} {i : Nat} {c : UInt8} (h : i < arr.length) : (upd arr (i : Int) c).drop i = c :: arr.drop (i + 1) := by
 unfold upd
 rw [Int.toNat_natCast, List.drop_eq_getElem_cons (by rw [List.length_set]; exact h), List.getElem_set_self, List.drop_set_of_lt (by omega)]

theorem u8_eq (d : Nat) (h : d < 256) : u8 (d : Int) = UInt8.ofNat d := rfl

/-- The digits of a number, from the end of twenty places. -/
theorem text_loop (N : Nat) (hN : N ≤ 9223372036854775808) : ∃ q, num.Text.loop0 ⟨20, (N : Int), List.replicate 20 (0 : UInt8)⟩ = some q ∧ ∃ i : Nat, q.1 = (i : Int) ∧ 1 ≤ i ∧ i ≤ 20 ∧ q.2.length = 20 ∧ q.2.drop i = dtext N := by
 have h19 : (dtext N).length ≤ 19 := dtext_len2 18 N (by omega)
 unfold num.Text.loop0
 refine whileO_meas (fun t => ∃ (i u : Nat), t.at_ = (i : Int) ∧ t.u = (u : Int) ∧ u ≤ N ∧ i ≤ 20 ∧ t.v.length = 20 ∧ dtext u ++ t.v.drop i = dtext N) (fun t => t.at_.toNat) _ (fun t => ?_) _ ⟨20, N, rfl, rfl, Nat.le_refl _, by omega, by simp, by simp⟩
 obtain ⟨ta, tu, tv⟩ := t
 rintro ⟨i, u, e1, e2, hu, hi, hl, ht⟩
 replace e1 : ta = (i : Int) := e1
 replace e2 : tu = (u : Int) := e2
 replace hl : tv.length = 20 := hl
 replace ht : dtext u ++ tv.drop i = dtext N := ht
 subst e1 e2
 have hlen := congrArg List.length ht
 rw [List.length_append, List.length_drop, hl] at hlen
 have hu1 := (dtext_len u).1
 have h10 := Nat.mod_lt u (y := 10) (by omega)
 have hd : IntKind.wrap .u8 (IntKind.wrap .u64 (48 + (u : Int).tmod 10)) = ((48 + u % 10 : Nat) : Int) := by
  have : (u : Int).tmod 10 = ((u % 10 : Nat) : Int) := rfl
  rw [this, u64w (by omega) (by omega), u8w (by omega) (by omega)]
  omega
 have hq : IntKind.wrap .u64 ((u : Int).tdiv 10) = ((u / 10 : Nat) : Int) := by
  have : (u : Int).tdiv 10 = ((u / 10 : Nat) : Int) := rfl
  rw [this, u64w (by omega) (by omega)]
 have ha : IntKind.wrap .i64 ((i : Int) - 1) = ((i - 1 : Nat) : Int) := by rw [i64w (by omega) (by omega)]; omega
 have hup : (upd tv ((i - 1 : Nat) : Int) (UInt8.ofNat (48 + u % 10))).drop (i - 1) = UInt8.ofNat (48 + u % 10) :: tv.drop i := by
  rw [drop_upd (by omega), show i - 1 + 1 = i by omega]
 have hul : (upd tv ((i - 1 : Nat) : Int) (UInt8.ofNat (48 + u % 10))).length = 20 := by
  unfold upd
  rw [List.length_set, hl]
 unfold num.Text.body0
 simp only [ha, hd, hq]
 rw [need_eq ⟨by omega, by omega⟩, need_eq hl, need_eq ⟨by omega, by omega⟩, need_eq ⟨by omega, by omega⟩, u8_eq _ (by omega)]
 by_cases h9 : u < 10
 ·rw [if_pos (by omega)]
  refine .inr ⟨_, rfl, i - 1, rfl, by omega, by omega, hul, ?_⟩
  show (upd tv ((i - 1 : Nat) : Int) (UInt8.ofNat (48 + u % 10))).drop (i - 1) = dtext N
  rw [hup, ← ht, dtext_small h9, show u % 10 = u by omega]
  rfl
 ·rw [if_neg (by omega)]
  refine .inl ⟨_, rfl, ⟨i - 1, u / 10, rfl, rfl, by omega, by omega, hul, ?_⟩, ?_⟩
  ·show dtext (u / 10) ++ (upd tv ((i - 1 : Nat) : Int) (UInt8.ofNat (48 + u % 10))).drop (i - 1) = dtext N
   rw [hup, ← ht, dtext_big h9, List.append_assoc]
   rfl
  ·show ((i - 1 : Nat) : Int).toNat < (i : Int).toNat
   omega

theorem pTextI (v : Int) (h : I64 v) : num.Text v = some (itext v) := by
 obtain ⟨h1, h2⟩ := h
 unfold num.Text letO
 have hu : (if v < 0 then IntKind.wrap .u64 (0 - IntKind.wrap .u64 v) else IntKind.wrap .u64 v) = (v.natAbs : Int) := by
  by_cases hn : v < 0
  ·rw [if_pos hn]
   simp only [IntKind.wrap, IntKind.bits, IntKind.signed]
   simp
   omega
  ·rw [if_neg hn, u64w (by omega) (by omega)]
   omega
 obtain ⟨q, hq, i, e, hi, hi2, hl, ht⟩ := text_loop v.natAbs (by omega)
 obtain ⟨qa, qv⟩ := q
 replace e : qa = (i : Int) := e
 replace hl : qv.length = 20 := hl
 replace ht : qv.drop i = dtext v.natAbs := ht
 subst e
 show (num.Text.loop0 ⟨20, (if v < 0 then IntKind.wrap .u64 (0 - IntKind.wrap .u64 v) else IntKind.wrap .u64 v), List.replicate 20 (0 : UInt8)⟩).bind _ = _
 rw [hu, hq, Option.bind_some]
 unfold itext
 by_cases hn : v < 0
 ·rw [if_pos hn, if_pos hn]
  have ha : IntKind.wrap .i64 ((i : Int) - 1) = ((i - 1 : Nat) : Int) := by rw [i64w (by omega) (by omega)]; omega
  show ((need (InB (IntKind.wrap .i64 ((i : Int) - 1)) 20) (need (qv.length = 20) (need (InB (IntKind.wrap .i64 ((i : Int) - 1)) qv.length) (need (IsU8 45) (some (IntKind.wrap .i64 ((i : Int) - 1), upd qv (IntKind.wrap .i64 ((i : Int) - 1)) (u8 45))))))).bind _) = _
  rw [ha, need_eq ⟨by omega, by omega⟩, need_eq hl, need_eq ⟨by omega, by omega⟩, need_eq ⟨by omega, by omega⟩, Option.bind_some]
  have hul : (upd qv ((i - 1 : Nat) : Int) (u8 45)).length = 20 := by
   unfold upd
   rw [List.length_set, hl]
  show need (InR ((i - 1 : Nat) : Int) ((upd qv ((i - 1 : Nat) : Int) (u8 45)).length : Int) (upd qv ((i - 1 : Nat) : Int) (u8 45)).length) (need ((upd qv ((i - 1 : Nat) : Int) (u8 45)).length = 20) (some (sub (upd qv ((i - 1 : Nat) : Int) (u8 45)) ((i - 1 : Nat) : Int) ((upd qv ((i - 1 : Nat) : Int) (u8 45)).length : Int)))) = _
  rw [need_eq ⟨by omega, by omega, by omega⟩, need_eq hul, sub_all, Int.toNat_natCast, drop_upd (by omega), show i - 1 + 1 = i by omega, ht]
  rfl
 ·rw [if_neg hn, if_neg hn, Option.bind_some]
  show need (InR (i : Int) (qv.length : Int) qv.length) (need (qv.length = 20) (some (sub qv (i : Int) (qv.length : Int)))) = _
  rw [need_eq ⟨by omega, by omega, by omega⟩, need_eq hl, sub_all, Int.toNat_natCast, ht]

theorem itext_len {v : Int} (h : I64 v) : (itext v).length ≤ 20 := by
 obtain ⟨h1, h2⟩ := h
 have := dtext_len2 18 v.natAbs (by omega)
 unfold itext
 split
 ·rw [List.length_cons]; omega
 ·omega

theorem itext_inj {v w : Int} (h : itext v = itext w) : v = w := by
 have h1 := body_itext (v := v)
 have h2 := body_itext (v := w)
 rw [h] at h1
 have e1 : decide (v < 0) = decide (w < 0) := h1.1.symm.trans h2.1
 have e2 : dtext v.natAbs = dtext w.natAbs := h1.2.symm.trans h2.2
 have e3 : v.natAbs = w.natAbs := by rw [← (dtext_dig v.natAbs).2, e2, (dtext_dig w.natAbs).2]
 have e4 : (v < 0) ↔ (w < 0) := by simpa using e1
 omega

theorem rParse_itext {v : Int} (h : I64 v) : mewsref01.Parse (itext v) = some (v, true) := by
 obtain ⟨b, hb, hiff, hcan⟩ := rParseI (itext v) (by have := itext_len h; omega)
 have hbt : b = true := hiff.2 ⟨v, h, rfl⟩
 rw [hb, hbt, if_pos rfl, itext_inj (hcan hbt).2.symm]

/-- Add on a text: both the same; if it is told, by its numbers. -/
theorem sAdd {s : Str} {by_ : Int} (hs : s.length < 1000000000000000) (hb : I64 by_) :
  ∃ x e, str.Add s by_ = some (x, e) ∧ mewsref20.Add s by_ = some (x, e) ∧ (e = 0 ∨ (e ≠ 0 ∧ x = [])) ∧ (e = 0 → ∃ v, canon s v ∧ I64 (v + by_) ∧ x = itext (v + by_)) := by
 obtain ⟨b, hp, hiff, hcan⟩ := rParseI s hs
 unfold str.Add mewsref20.Add
 rw [pParse_eq s hs, hp, Option.bind_some, Option.bind_some]
 cases b with
 | false => exact ⟨[], 2, rfl, rfl, .inr ⟨by decide, rfl⟩, fun h => by cases h⟩
 | true =>
  have hc := hcan rfl
  obtain ⟨v, ok, h1, h2, h3, h4⟩ := addBoth hc.1 hb
  rw [if_pos rfl, if_neg (fun h => by cases h), if_neg (fun h => by cases h)]
  show ∃ x e, ((num.Add (sval s) by_).bind _) = some (x, e) ∧ ((mewsref01.Add (sval s) by_).bind _) = some (x, e) ∧ _
  rw [h1, h2, Option.bind_some, Option.bind_some]
  cases ok with
  | false => exact ⟨[], 13, rfl, rfl, .inr ⟨by decide, rfl⟩, fun h => by cases h⟩
  | true =>
   obtain ⟨hI, rfl⟩ := h3 rfl
   rw [if_neg (fun h => by cases h), if_neg (fun h => by cases h)]
   show ∃ x e, ((num.Text (sval s + by_)).bind _) = some (x, e) ∧ ((mewsref01.Text (sval s + by_)).bind _) = some (x, e) ∧ _
   rw [pTextI _ hI, rTextI _ hI, Option.bind_some]
   exact ⟨_, 0, rfl, rfl, .inl rfl, fun _ => ⟨sval s, hc, hI, rfl⟩⟩

end Go.Pu
