import Derived.Test.YtakmcdnailmhlaaGreatPSPuBase
import Derived.Test.YtakmcdnailmhlaaGreatPSP
set_option maxRecDepth 100000
namespace Go.Pu
open Go.Lift

def dval (s : List UInt8) : Nat := s.foldl (fun n c => 10 * n + (c.toNat - 48)) 0
def isDig (c : UInt8) : Prop := 48 ≤ c.toNat ∧ c.toNat ≤ 57
instance (c : UInt8) : Decidable (isDig c) := inferInstanceAs (Decidable (_ ∧ _))
theorem dval_snoc (s : List UInt8) (c : UInt8) : dval (s ++ [c]) = 10 * dval s + (c.toNat - 48) := by simp [dval, List.foldl_append]
theorem dval_one (c : UInt8) : dval [c] = c.toNat - 48 := by simp [dval]

theorem dval_take_le (s : List UInt8) (i : Nat) : dval (s.take i) ≤ dval s := by
 have : ∀ (k : Nat), dval (s.take i) ≤ dval (s.take (i + k)) := by
  intro k
  induction k with
  | zero => exact Nat.le_refl _
  | succ k ih =>
   rw [show i + (k + 1) = (i + k) + 1 by omega, List.take_add_one]
   cases h : s[i + k]? with
   | none => simpa using ih
   | some c => simp only [Option.toList_some]; rw [dval_snoc]; omega
 have h := this s.length
 rwa [List.take_of_length_le (i := i + s.length) (by omega)] at h

def dtext (v : Nat) : List UInt8 := if h : v < 10 then [UInt8.ofNat (48 + v)] else dtext (v / 10) ++ [UInt8.ofNat (48 + v % 10)]
termination_by v
theorem dtext_small {v : Nat} (h : v < 10) : dtext v = [UInt8.ofNat (48 + v)] := by rw [dtext, dif_pos h]
theorem dtext_big {v : Nat} (h : ¬ v < 10) : dtext v = dtext (v / 10) ++ [UInt8.ofNat (48 + v % 10)] := by rw [dtext, dif_neg h]

theorem dtext_len : ∀ (v : Nat), 1 ≤ (dtext v).length ∧ (dtext v).length ≤ v + 1
 | v => by
  by_cases h : v < 10
  ·rw [dtext_small h]; simp
  ·rw [dtext_big h]
   have := dtext_len (v / 10)
   simp; omega
termination_by v => v

theorem dtext_len2 : ∀ (k v : Nat), v < 10 ^ (k + 1) → (dtext v).length ≤ k + 1
 | 0, v, h => by rw [dtext_small (by omega)]; simp
 | k + 1, v, h => by
  by_cases h1 : v < 10
  ·rw [dtext_small h1]; simp
  ·rw [dtext_big h1]
   have := dtext_len2 k (v / 10) (by rw [Nat.pow_succ] at h; omega)
   simp; omega

theorem dtext_head {v : Nat} (h : 0 < v) : (dtext v).head? ≠ some 48 := by
 by_cases h1 : v < 10
 ·rw [dtext_small h1]
  have : ∀ d : Fin 10, 0 < d.val → ([UInt8.ofNat (48 + d.val)] : List UInt8).head? ≠ some 48 := by decide
  exact this ⟨v, h1⟩ h
 ·rw [dtext_big h1]
  have ih := dtext_head (v := v / 10) (by omega)
  have hl := (dtext_len (v / 10)).1
  cases hd : dtext (v / 10) with
  | nil => rw [hd] at hl; simp at hl
  | cons a l => rw [hd] at ih; simpa using ih
termination_by v

theorem dval_pos : ∀ (s : List UInt8), s ≠ [] → (∀ c ∈ s, isDig c) → s.head? ≠ some 48 → 0 < dval s := by
 intro s h0 hd hh
 cases s with
 | nil => exact absurd rfl h0
 | cons c t =>
  have h1 : isDig c := hd c (by simp)
  have h2 : c.toNat ≠ 48 := fun e => hh (by simp; exact UInt8.toNat_inj.1 (by simpa using e))
  have := dval_take_le (c :: t) 1
  simp only [List.take_succ_cons, List.take_zero] at this
  rw [dval_one] at this
  have := h1.1
  omega

/-- A decimal is the text of its value. -/
theorem dtext_dval : ∀ (n : Nat) (s : List UInt8), s.length = n + 1 → (∀ c ∈ s, isDig c) → (n = 0 ∨ s.head? ≠ some 48) → dtext (dval s) = s
 | 0, s, hl, hd, _ => by
  match s, hl with
  | [c], _ =>
   have h1 := hd c (by simp)
   rw [dval_one, dtext_small (by have := h1.2; omega), show 48 + (c.toNat - 48) = c.toNat by have := h1.1; omega]
   simp
 | n + 1, s, hl, hd, hh => by
  have hne : s ≠ [] := by intro e; rw [e] at hl; simp at hl
  obtain ⟨t, c, rfl⟩ : ∃ t c, s = t ++ [c] := ⟨s.dropLast, s.getLast hne, (List.dropLast_concat_getLast hne).symm⟩
  have htl : t.length = n + 1 := by simpa using hl
  have htne : t ≠ [] := by intro e; rw [e] at htl; simp at htl
  have hth : t.head? ≠ some 48 := by
   rcases hh with h | h
   ·omega
   ·cases t with
    | nil => exact absurd rfl htne
    | cons a t => simpa using h
  have htd : ∀ x ∈ t, isDig x := fun x hx => hd x (by simp [hx])
  have ih := dtext_dval n t htl htd (.inr hth)
  have hp := dval_pos t htne htd hth
  have hc := hd c (by simp)
  have h1 := hc.1
  have h2 := hc.2
  rw [dval_snoc, dtext_big (by omega), show (10 * dval t + (c.toNat - 48)) / 10 = dval t by omega, show (10 * dval t + (c.toNat - 48)) % 10 = c.toNat - 48 by omega, ih, show 48 + (c.toNat - 48) = c.toNat by omega]
  simp

/-! ### Text -/
theorem rDigits_mono : ∀ (k : Nat) (n : Int), OLe (mewsref01.digits.rec k n) (mewsref01.digits.rec (k + 1) n)
 | 0, n => OLe.none
 | k + 1, n => by
  intro r hr
  rw [mewsref01.digits.rec] at hr ⊢
  by_cases h : (-10) < n
  ·rw [if_pos h] at hr ⊢; exact hr
  ·rw [if_neg h] at hr ⊢
   cases h1 : mewsref01.digits.rec k (IntKind.wrap .i64 (n.tdiv 10)) with
   | none => rw [h1] at hr; simp at hr
   | some q => rw [h1] at hr; rw [rDigits_mono k _ q h1]; exact hr

theorem signs_at (d : Nat) (h : d < 10) : sub ([48, 49, 50, 51, 52, 53, 54, 55, 56, 57] : List UInt8) (d : Int) ((d : Int) + 1) = [UInt8.ofNat (48 + d)] := by
 have : ∀ d : Fin 10, sub ([48, 49, 50, 51, 52, 53, 54, 55, 56, 57] : List UInt8) (d.val : Int) ((d.val : Int) + 1) = [UInt8.ofNat (48 + d.val)] := by decide
 exact this ⟨d, h⟩

theorem neg_tmod10 (v : Nat) : (-(v : Int)).tmod 10 = -((v % 10 : Nat) : Int) := by
 rw [Int.neg_tmod]; congr 1
theorem neg_tdiv10 (v : Nat) : (-(v : Int)).tdiv 10 = -((v / 10 : Nat) : Int) := by
 rw [Int.neg_tdiv]; congr 1

theorem rDigits_eq (v : Nat) (h : v < 9223372036854775808) : ∃ k, mewsref01.digits.rec k (-(v : Int)) = some (dtext v) := by
 have hw : IntKind.wrap .i64 (0 - (-(v : Int)).tmod 10) = ((v % 10 : Nat) : Int) := by
  rw [neg_tmod10, i64w (by omega) (by omega)]; omega
 have hm := Nat.mod_lt v (y := 10) (by omega)
 by_cases h1 : v < 10
 ·refine ⟨1, ?_⟩
  rw [mewsref01.digits.rec, if_pos (by omega), hw, i64w (n := ((v % 10 : Nat) : Int) + 1) (by omega) (by omega), need_eq ⟨by omega, by omega, by show ((v % 10 : Nat) : Int) + 1 ≤ 10; omega⟩]
  simp only [letO]
  rw [signs_at _ hm, dtext_small h1, show v % 10 = v by omega]
 ·obtain ⟨k, hk⟩ := rDigits_eq (v / 10) (by omega)
  refine ⟨k + 1, ?_⟩
  rw [mewsref01.digits.rec, if_neg (by omega), neg_tdiv10, i64w (n := -((v / 10 : Nat) : Int)) (by omega) (by omega), hk, Option.bind_some, hw, i64w (n := ((v % 10 : Nat) : Int) + 1) (by omega) (by omega), need_eq ⟨by omega, by omega, by show ((v % 10 : Nat) : Int) + 1 ≤ 10; omega⟩]
  simp only [letO]
  have := dtext_len2 18 (v / 10) (by omega)
  rw [signs_at _ hm, need_eq (by simp only [List.length_singleton]; omega), ← dtext_big h1]
termination_by v

theorem rText_eq (v : Nat) (h : v < 9223372036854775808) : mewsref01.Text (v : Int) = some (dtext v) := by
 unfold mewsref01.Text
 obtain ⟨k, hk⟩ := rDigits_eq v h
 rw [if_neg (by omega), show (0 : Int) - (v : Int) = -(v : Int) by omega, i64w (by omega) (by omega)]
 unfold mewsref01.digits
 rw [fixO_eq (fun k => rDigits_mono k _) hk]
 rfl

/-! ### Parse of digits -/
theorem rParse_digits (s : List UInt8) (hd : ∀ c ∈ s, isDig c) (hv : dval s ≤ 1000000000000) (hl : s.length < 1000000000000) :
  mewsref01.Parse s = some (if dtext (dval s) = s then ((dval s : Int), true) else (0, false)) := by
 have hbix : ∀ i (hi : i < s.length), 48 ≤ bix s (i : Int) ∧ bix s (i : Int) ≤ 57 ∧ bix s (i : Int) = (s[i].toNat : Int) := by
  intro i hi
  have := hd s[i] (List.getElem_mem hi)
  rw [bix_get' hi]
  obtain ⟨h1, h2⟩ := this
  omega
 unfold mewsref01.Parse
 have hm : (if 0 < (s.length : Int) then need (InB 0 s.length) (some (decide ((bix s 0) = 45))) else some false) = some false := by
  by_cases h0 : 0 < s.length
  ·have := (hbix 0 h0).1
   rw [if_pos (by omega), need_eq ⟨by omega, by omega⟩, decide_eq_false (by rw [show (0 : Int) = ((0 : Nat) : Int) from rfl]; omega)]
  ·rw [if_neg (by omega)]
 rw [hm]
 simp only [Option.bind_some]
 have hloop : mewsref01.Parse.loop0 s false ⟨0, 0⟩ = some (.inl (-(dval s : Int))) := by
  unfold mewsref01.Parse.loop0
  refine whileO_knownE ⟨0, 0⟩ (fun i => (⟨-(dval (s.take i) : Int), (i : Int)⟩ : mewsref01.Parse.S0)) s.length (fun i hi => ?_) ?_ (by simp [dval])
  ·obtain ⟨h1, h2, h3⟩ := hbix i hi
   have htk := dval_take_le s (i + 1)
   have htk0 := dval_take_le s i
   have hsn : dval (s.take (i + 1)) = 10 * dval (s.take i) + (s[i].toNat - 48) := by
    rw [List.take_add_one, List.getElem?_eq_getElem hi]; simp only [Option.toList_some]; rw [dval_snoc]
   have hdg := hd s[i] (List.getElem_mem hi)
   obtain ⟨g1, g2⟩ := hdg
   have e1 : IntKind.wrap .i64 (IntKind.wrap .u8 (bix s (i : Int) - 48)) = ((s[i].toNat - 48 : Nat) : Int) := by
    rw [u8w (by omega) (by omega), i64w (by omega) (by omega)]; omega
   have e2 : (IntKind.wrap .i64 ((-9223372036854775808) + ((s[i].toNat - 48 : Nat) : Int))).tdiv 10 ≤ -922337203685477578 := by
    rw [i64w (by omega) (by omega)]
    have : (-9223372036854775808 : Int) + ((s[i].toNat - 48 : Nat) : Int) = -((9223372036854775808 - (s[i].toNat - 48) : Nat) : Int) := by omega
    rw [this, neg_tdiv10]; omega
   have e3 : -922337203685477580 ≤ (IntKind.wrap .i64 ((-9223372036854775808) + ((s[i].toNat - 48 : Nat) : Int))).tdiv 10 := by
    rw [i64w (by omega) (by omega)]
    have : (-9223372036854775808 : Int) + ((s[i].toNat - 48 : Nat) : Int) = -((9223372036854775808 - (s[i].toNat - 48) : Nat) : Int) := by omega
    rw [this, neg_tdiv10]; omega
   unfold mewsref01.Parse.body0
   simp only [letO]
   rw [if_pos (by omega), need_eq ⟨by omega, by omega⟩, need_eq ⟨by omega, by omega⟩, need_eq ⟨by omega, by omega⟩, e1]
   have e0 : (if (i : Int) = 0 then false else false) = false := by split <;> rfl
   rw [e0]
   simp only [Bool.false_eq_true, if_false]
   rw [if_neg (by omega)]
   simp only [Option.bind_some]
   rw [decide_eq_false (by omega)]
   simp only [Bool.false_eq_true, if_false]
   rw [i64w (n := Int.tdiv _ _) (by omega) (by omega), if_neg (by omega), i64w (n := (i : Int) + 1) (by omega) (by omega), i64w (n := -(dval (s.take i) : Int) * 10) (by omega) (by omega), i64w (n := _ - _) (by omega) (by omega)]
   simp only [Option.bind_some, onSum]
   have e4 : -(dval (s.take i) : Int) * 10 - ((s[i].toNat - 48 : Nat) : Int) = -(dval (s.take (i + 1)) : Int) := by omega
   rw [e4]; rfl
  ·unfold mewsref01.Parse.body0
   simp only
   rw [if_neg (by omega), List.take_length]
 rw [hloop]
 simp only [Option.bind_some, onSum, letO, Bool.not_false, if_true]
 rw [decide_eq_false (by omega)]
 simp only [Bool.false_eq_true, if_false]
 rw [show (0 : Int) - -(dval s : Int) = (dval s : Int) by omega, i64w (by omega) (by omega), rText_eq _ (by omega)]
 simp only [Option.bind_some]
 split <;> rfl

theorem rParse_canon {s : List UInt8} (hne : s ≠ []) (hd : ∀ c ∈ s, isDig c) (hv : dval s ≤ 1000000000000) (hl : s.length < 1000000000000) (hc : s.length = 1 ∨ s.head? ≠ some 48) : mewsref01.Parse s = some ((dval s : Int), true) := by
 rw [rParse_digits s hd hv hl, if_pos]
 cases hs : s.length with
 | zero => exact absurd (List.length_eq_zero_iff.1 hs) hne
 | succ n => exact dtext_dval n s hs hd (hc.imp (fun h => by omega) id)

theorem rParse_zero {s : List UInt8} (hd : ∀ c ∈ s, isDig c) (hv : dval s ≤ 1000000000000) (hl : s.length < 1000000000000) (h2 : 2 ≤ s.length) (hh : s.head? = some 48) : mewsref01.Parse s = some (0, false) := by
 rw [rParse_digits s hd hv hl, if_neg]
 intro e
 by_cases h0 : dval s = 0
 ·rw [h0, dtext_small (by omega)] at e
  rw [← e] at h2; simp at h2
 ·have := dtext_head (v := dval s) (by omega)
  rw [e] at this
  exact this hh

end Go.Pu

set_option maxRecDepth 100000
namespace Go.Pu
open Go.Lift

inductive HR where
 | more
 | dead (e : Int)
 | ok (n size : Nat)
 deriving DecidableEq

def crEnd (n i : Nat) : List UInt8 → HR
 | [] => .more
 | d :: _ => if d = 10 then .ok n (i + 2) else .dead 5

def hdrGo (most : Nat) (over : Int) : List UInt8 → Nat → Nat → HR
 | [], _, _ => .more
 | c :: t, i, n =>
  if c = 13 ∧ 1 < i then crEnd n i t
  else if ¬ isDig c ∨ (1 < i ∧ n = 0) then .dead 5
  else if most < 10 * n + (c.toNat - 48) then .dead over
  else hdrGo most over t (i + 1) (10 * n + (c.toNat - 48))

def hdrM (s : List UInt8) (mark : UInt8) (most : Nat) (over : Int) : HR :=
 match s with
 | [] => .more
 | c :: t => if c = mark then hdrGo most over t 1 0 else .dead 5

theorem hdrGo_ok {most : Nat} {over : Int} : ∀ {t : List UInt8} {i n m k : Nat}, hdrGo most over t i n = .ok m k → 1 ≤ i → n ≤ most → i + 2 ≤ k ∧ k ≤ i + t.length ∧ m ≤ most
 | [], i, n, m, k, h, _, _ => by simp [hdrGo] at h
 | c :: t, i, n, m, k, h, h1, h2 => by
  rw [hdrGo] at h
  by_cases hc : c = 13 ∧ 1 < i
  ·rw [if_pos hc] at h
   cases t with
   | nil => simp [crEnd] at h
   | cons d t =>
    simp only [crEnd] at h
    by_cases hd : d = 10
    ·rw [if_pos hd] at h; injection h with e1 e2; subst e1 e2; simp; omega
    ·rw [if_neg hd] at h; simp at h
  ·rw [if_neg hc] at h
   by_cases hx : ¬ isDig c ∨ (1 < i ∧ n = 0)
   ·rw [if_pos hx] at h; simp at h
   ·rw [if_neg hx] at h
    by_cases hm : most < 10 * n + (c.toNat - 48)
    ·rw [if_pos hm] at h; simp at h
    ·rw [if_neg hm] at h
     have := hdrGo_ok h (by omega) (by omega)
     simp; omega

theorem hdrM_ok {s : List UInt8} {mark : UInt8} {most : Nat} {over : Int} {m k : Nat} (h : hdrM s mark most over = .ok m k) : 3 ≤ k ∧ k ≤ s.length ∧ m ≤ most := by
 cases s with
 | nil => simp [hdrM] at h
 | cons c t =>
  rw [hdrM] at h
  by_cases hc : c = mark
  ·rw [if_pos hc] at h
   have := hdrGo_ok h (by omega) (by omega)
   simp; omega
  ·rw [if_neg hc] at h; simp at h

theorem bix_app (pre t : List UInt8) (c : UInt8) : bix (pre ++ c :: t) (pre.length : Int) = (c.toNat : Int) := by
 rw [bix_get' (by simp)]; simp
theorem bix_app1 (pre t : List UInt8) (c d : UInt8) : bix (pre ++ c :: d :: t) ((pre.length : Int) + 1) = (d.toNat : Int) := by
 rw [show (pre.length : Int) + 1 = ((pre.length + 1 : Nat) : Int) by omega, bix_get' (by simp)]; simp

theorem toNat_eq_iff (c d : UInt8) : (c.toNat : Int) = (d.toNat : Int) ↔ c = d :=
 ⟨fun h => UInt8.toNat_inj.1 (by omega), fun h => by rw [h]⟩

def deadP (p : parse.parser) (e : Int) : parse.parser := { p with in_ := ({ Rest := [], Args := [], Left := 0, Size := 0, Body := false, Need := 0, Dead := e } : api.Input), s := [] }
def pastP (p : parse.parser) (k : Nat) : parse.parser := { p with in_ := { p.in_ with Size := p.in_.Size + k }, s := p.s.drop k }

theorem dies_eq (e : Int) (p : parse.parser) : parse.parser.dies e p = some (false, deadP p e) := rfl
theorem past_eq (k : Nat) (p : parse.parser) (hk : k ≤ p.s.length) (h0 : 0 ≤ p.in_.Size) (hs : p.in_.Size + p.s.length ≤ 9223372036854775807) : parse.parser.past (k : Int) p = some (pastP p k) := by
 unfold parse.parser.past pastP
 rw [need_eq ⟨by omega, by omega, by omega⟩, i64w (by omega) (by omega), sub_all, Int.toNat_natCast]

def hdrP (r : HR) (p : parse.parser) : Int × Bool × parse.parser :=
 match r with
 | .more => (0, false, p)
 | .dead e => (0, false, deadP p e)
 | .ok n k => ((n : Int), true, pastP p k)

theorem header_go (p : parse.parser) (most : Nat) (over : Int) (hm : most ≤ 2000000) (hl : p.s.length ≤ 1000000000) (h0 : 0 ≤ p.in_.Size) (hs : p.in_.Size ≤ 1000000000) :
  ∀ (t pre : List UInt8) (n : Nat), p.s = pre ++ t → 1 ≤ pre.length → n ≤ most →
   ∃ r, whileO (parse.parser.header.body0 p (most : Int) over) ⟨(n : Int), (pre.length : Int)⟩ = some r ∧ (onSum r (fun _ => some (0, false, p)) fun x => some x) = some (hdrP (hdrGo most over t pre.length n) p)
 | [], pre, n, e, h1, hn => by
  rw [List.append_nil] at e
  refine ⟨.inl (), whileO_end ?_, rfl⟩
  unfold parse.parser.header.body0
  rw [if_neg (by simp only [e]; omega)]
 | c :: t, pre, n, e, h1, hn => by
  have hlen : p.s.length = pre.length + (t.length + 1) := by rw [e]; simp
  have hb : bix p.s (pre.length : Int) = (c.toNat : Int) := by rw [e, bix_app]
  have hc255 := c.toNat_lt
  rw [hdrGo]
  by_cases hc : c = 13 ∧ 1 < pre.length
  ·rw [if_pos hc]
   have hg : (if bix p.s (pre.length : Int) = 13 then decide (1 < (pre.length : Int)) else false) = true := by
    rw [hb, if_pos (by rw [hc.1]; rfl)]; simp; omega
   cases t with
   | nil =>
    refine ⟨.inr (0, false, p), whileO_end ?_, rfl⟩
    unfold parse.parser.header.body0
    simp only [letO]
    rw [if_pos (by omega), need_eq ⟨by omega, by omega⟩, hg, if_pos rfl, i64w (by omega) (by omega), if_pos (by simp at hlen; omega)]
   | cons d t =>
    have hb1 : bix p.s ((pre.length : Int) + 1) = (d.toNat : Int) := by rw [e, bix_app1]
    simp only [List.length_cons] at hlen
    simp only [crEnd]
    by_cases hd : d = 10
    ·rw [if_pos hd]
     refine ⟨.inr (n, true, pastP p (pre.length + 2)), whileO_end ?_, rfl⟩
     unfold parse.parser.header.body0
     simp only [letO]
     rw [if_pos (by omega), need_eq ⟨by omega, by omega⟩, hg, if_pos rfl, i64w (n := (pre.length : Int) + 1) (by omega) (by omega), if_neg (by omega), need_eq ⟨by omega, by omega⟩, hb1, if_pos (by rw [hd]; rfl), i64w (by omega) (by omega),
      show (pre.length : Int) + 2 = ((pre.length + 2 : Nat) : Int) by omega, past_eq _ _ (by omega) h0 (by omega)]
     rfl
    ·rw [if_neg hd]
     refine ⟨.inr (0, false, deadP p 5), whileO_end ?_, rfl⟩
     unfold parse.parser.header.body0
     simp only [letO]
     rw [if_pos (by omega), need_eq ⟨by omega, by omega⟩, hg, if_pos rfl, i64w (n := (pre.length : Int) + 1) (by omega) (by omega), if_neg (by omega), need_eq ⟨by omega, by omega⟩, hb1, if_neg (show ¬ (d.toNat : Int) = 10 from fun h => hd ((toNat_eq_iff d 10).1 h)), dies_eq]
     rfl
  ·rw [if_neg hc]
   have hg : (if bix p.s (pre.length : Int) = 13 then decide (1 < (pre.length : Int)) else false) = false := by
    rw [hb]
    by_cases h : (c.toNat : Int) = 13
    ·rw [if_pos h]
     have : c = 13 := (toNat_eq_iff c 13).1 h
     have h3 : ¬ 1 < pre.length := fun h2 => hc ⟨this, h2⟩
     rw [decide_eq_false_iff_not]; omega
    ·rw [if_neg h]
   have hx : (if bix p.s (pre.length : Int) < 48 then true else if 57 < bix p.s (pre.length : Int) then true else if 1 < (pre.length : Int) then decide ((n : Int) = 0) else false) = decide (¬ isDig c ∨ (1 < pre.length ∧ n = 0)) := by
    rw [hb]
    unfold isDig
    by_cases g1 : (c.toNat : Int) < 48
    ·rw [if_pos g1]; symm; rw [decide_eq_true_eq]; left; omega
    ·rw [if_neg g1]
     by_cases g2 : 57 < (c.toNat : Int)
     ·rw [if_pos g2]; symm; rw [decide_eq_true_eq]; left; omega
     ·rw [if_neg g2]
      by_cases g3 : 1 < (pre.length : Int)
      ·rw [if_pos g3]; apply decide_eq_decide.2; omega
      ·rw [if_neg g3]; symm; rw [decide_eq_false_iff_not]; omega
   by_cases hbad : ¬ isDig c ∨ (1 < pre.length ∧ n = 0)
   ·rw [if_pos hbad]
    refine ⟨.inr (0, false, deadP p 5), whileO_end ?_, rfl⟩
    unfold parse.parser.header.body0
    simp only [letO]
    rw [if_pos (by omega), need_eq ⟨by omega, by omega⟩, hg]
    simp only [Bool.false_eq_true, if_false]
    rw [hx, decide_eq_true hbad, if_pos rfl, dies_eq]
    rfl
   ·rw [if_neg hbad]
    have hdig : isDig c := by
     by_cases h : isDig c
     ·exact h
     ·exact absurd (.inl h) hbad
    obtain ⟨d1, d2⟩ := hdig
    have hv : IntKind.wrap .i64 ((IntKind.wrap .i64 (10 * (n : Int))) + (IntKind.wrap .i64 (IntKind.wrap .u8 ((bix p.s (pre.length : Int)) - 48)))) = ((10 * n + (c.toNat - 48) : Nat) : Int) := by
     rw [hb, u8w (by omega) (by omega), i64w (n := 10 * (n : Int)) (by omega) (by omega), i64w (n := (c.toNat : Int) - 48) (by omega) (by omega), i64w (by omega) (by omega)]; omega
    by_cases hov : most < 10 * n + (c.toNat - 48)
    ·rw [if_pos hov]
     refine ⟨.inr (0, false, deadP p over), whileO_end ?_, rfl⟩
     unfold parse.parser.header.body0
     simp only [letO]
     rw [if_pos (by omega), need_eq ⟨by omega, by omega⟩, hg]
     simp only [Bool.false_eq_true, if_false]
     rw [hx, decide_eq_false hbad]
     simp only [Bool.false_eq_true, if_false]
     rw [hv, if_pos (by omega), dies_eq]
     rfl
    ·rw [if_neg hov]
     obtain ⟨r, g1, g2⟩ := header_go p most over hm hl h0 hs t (pre ++ [c]) (10 * n + (c.toNat - 48)) (by rw [e]; simp) (by simp) (by omega)
     have hpl : (pre ++ [c]).length = pre.length + 1 := by simp
     rw [hpl] at g1 g2
     refine ⟨r, whileO_next ?_ g1, g2⟩
     unfold parse.parser.header.body0
     simp only [letO]
     rw [if_pos (by omega), need_eq ⟨by omega, by omega⟩, hg]
     simp only [Bool.false_eq_true, if_false]
     rw [hx, decide_eq_false hbad]
     simp only [Bool.false_eq_true, if_false]
     rw [hv, if_neg (by omega), i64w (n := (pre.length : Int) + 1) (by omega) (by omega)]
     rfl

theorem header_eq (p : parse.parser) (mark : UInt8) (most : Nat) (over : Int) (hm : most ≤ 2000000) (hl : p.s.length ≤ 1000000000) (h0 : 0 ≤ p.in_.Size) (hs : p.in_.Size ≤ 1000000000) :
  parse.parser.header (mark.toNat : Int) (most : Int) over p = some (hdrP (hdrM p.s mark most over) p) := by
 unfold parse.parser.header
 cases e : p.s with
 | nil => rfl
 | cons c t =>
  have hb : bix (c :: t) 0 = (c.toNat : Int) := by
   have := bix_app [] t c
   simpa using this
  rw [if_neg (by simp), need_eq ⟨by omega, by simp⟩, hb]
  rw [hdrM]
  by_cases hc : c = mark
  ·rw [if_pos (by rw [hc]), if_pos hc]
   obtain ⟨r, g1, g2⟩ := header_go p most over hm hl h0 hs t [c] 0 (by rw [e]; rfl) (by simp) (by omega)
   unfold parse.parser.header.loop0
   have : (⟨0, 1⟩ : parse.parser.header.S0) = ⟨((0 : Nat) : Int), (([c] : List UInt8).length : Int)⟩ := rfl
   rw [this, g1]
   exact g2
  ·rw [if_neg (fun h => hc ((toNat_eq_iff c mark).1 h)), if_neg hc, dies_eq]
   rfl

/-! ### The reference's first -/
def hdrR (r : HR) : Int × Int × Int :=
 match r with
 | .more => (0, 0, -1)
 | .dead e => (0, 0, e)
 | .ok n k => ((n : Int), (k : Int), 0)

theorem sub_mid (a b c : List UInt8) : sub (a ++ b ++ c) (a.length : Int) ((a.length + b.length : Nat) : Int) = b := by
 rw [sub_nat, List.append_assoc, List.take_append, List.drop_append]
 simp

theorem first_go (s : List UInt8) (most : Nat) (over : Int) (hm : most ≤ 2000000) (hl : s.length ≤ 1000000000) (m : UInt8) :
  ∀ (t ds : List UInt8), s = m :: (ds ++ t) → (∀ c ∈ ds, isDig c) → (ds.length ≤ 1 ∨ ds.head? ≠ some 48) → dval ds ≤ most →
   ((mewsref05.first.loop0 s (most : Int) over ⟨((ds.length + 1 : Nat) : Int)⟩).bind fun s402 => onSum s402 (fun s294 =>
    need (InR 1 s294 s.length) <|
    (mewsref01.Parse (sub s 1 s294)).bind fun r388 =>
    need (InR s294 (s.length : Int) s.length) <|
    if (sub s s294 (s.length : Int)) = ([] : List UInt8) then
     some (0, 0, (-1))
    else
     (
      if s294 = 1 then
       some true
      else
       need (InB 0 (sub s s294 (s.length : Int)).length) <|
       some (!decide ((bix (sub s s294 (s.length : Int)) 0) = 13))).bind fun s392 =>
     if s392 = true then
      some (0, 0, 5)
     else
      if ((sub s s294 (s.length : Int)).length : Int) = 1 then
       some (0, 0, (-1))
      else
       need (InB 1 (sub s s294 (s.length : Int)).length) <|
       if (bix (sub s s294 (s.length : Int)) 1) = 10 then
        some (r388.1, IntKind.wrap .i64 (s294 + 2), 0)
       else
        some (0, 0, 5)) fun s402x => some s402x) = some (hdrR (hdrGo most over t (ds.length + 1) (dval ds))) := by
 intro t
 induction t with
 | nil =>
  intro ds e hd hcan hv
  rw [List.append_nil] at e
  have hlen : s.length = ds.length + 1 := by rw [e]; simp
  have hloop : mewsref05.first.loop0 s (most : Int) over ⟨((ds.length + 1 : Nat) : Int)⟩ = some (.inl ((ds.length + 1 : Nat) : Int)) := by
   unfold mewsref05.first.loop0
   apply whileO_end
   unfold mewsref05.first.body0
   simp only
   rw [if_neg (by omega)]
   rfl
  rw [hloop]
  simp only [Option.bind_some, onSum]
  have hsub : sub s 1 ((ds.length + 1 : Nat) : Int) = ds := by
   have := sub_mid [m] ds []
   rw [e]; simpa [Nat.add_comm] using this
  rw [need_eq ⟨by omega, by omega, by omega⟩, hsub, rParse_digits ds hd (by omega) (by omega), Option.bind_some, need_eq ⟨by omega, by omega, by omega⟩, sub_all, Int.toNat_natCast, List.drop_of_length_le (by omega), if_pos rfl]
  rfl
 | cons c t ih =>
  intro ds e hd hcan hv
  have hlen : s.length = ds.length + 1 + (t.length + 1) := by rw [e]; simp; omega
  have e' : s = (m :: ds) ++ c :: t := by rw [e]; simp
  have hb : bix s ((ds.length + 1 : Nat) : Int) = (c.toNat : Int) := by rw [e']; exact bix_app (m :: ds) t c
  have hc255 := c.toNat_lt
  by_cases hdig : isDig c
  ·obtain ⟨d1, d2⟩ := hdig
   have hds' : ∀ x ∈ ds ++ [c], isDig x := fun x hx => by
    rcases List.mem_append.1 hx with hx | hx
    ·exact hd x hx
    ·rw [List.mem_singleton] at hx; subst hx; exact ⟨d1, d2⟩
   have hsub : sub s 1 (((ds.length + 1 : Nat) : Int) + 1) = ds ++ [c] := by
    have := sub_mid [m] (ds ++ [c]) t
    have h1 : (([m] : List UInt8).length + (ds ++ [c]).length : Nat) = ((ds.length + 1 : Nat) : Int) + 1 := by simp; omega
    have h2 : [m] ++ (ds ++ [c]) ++ t = s := by rw [e]; simp
    rw [h1, h2] at this
    exact this
   have hv' : dval (ds ++ [c]) = 10 * dval ds + (c.toNat - 48) := dval_snoc ds c
   have hguard : (if ((ds.length + 1 : Nat) : Int) < (s.length : Int) then need (InB ((ds.length + 1 : Nat) : Int) s.length) (if 48 ≤ bix s ((ds.length + 1 : Nat) : Int) then need (InB ((ds.length + 1 : Nat) : Int) s.length) (some (decide (bix s ((ds.length + 1 : Nat) : Int) ≤ 57))) else some false) else some false) = some true := by
    rw [if_pos (by omega), need_eq ⟨by omega, by omega⟩, need_eq ⟨by omega, by omega⟩, hb, if_pos (by omega), decide_eq_true (by omega)]
   have hw : IntKind.wrap .i64 (((ds.length + 1 : Nat) : Int) + 1) = ((ds.length + 1 : Nat) : Int) + 1 := i64w (by omega) (by omega)
   by_cases hz : 1 ≤ ds.length ∧ ds.head? = some 48
   ·-- a zero ahead of digits
    have hds1 : ds.length = 1 := by
     rcases hcan with h | h
     ·omega
     ·exact absurd hz.2 h
    have hds : ds = [48] := by
     match ds, hds1, hz.2 with
     | [x], _, h => simp at h; rw [h]
    have hn0 : dval ds = 0 := by rw [hds]; rfl
    have hP : mewsref01.Parse (ds ++ [c]) = some (0, false) := rParse_zero hds' (by omega) (by simp; omega) (by simp; omega) (by rw [hds]; rfl)
    have hb1 : bix s 1 = 48 := by
     rw [e, hds]
     rfl
    rw [hdrGo, if_neg (by rintro ⟨h, _⟩; rw [h] at d1; exact absurd d1 (by decide)), if_pos (.inr ⟨by omega, hn0⟩)]
    have hloop : mewsref05.first.loop0 s (most : Int) over ⟨((ds.length + 1 : Nat) : Int)⟩ = some (.inr (0, 0, 5)) := by
     unfold mewsref05.first.loop0
     apply whileO_end
     unfold mewsref05.first.body0
     simp only
     rw [hguard]
     simp only [Option.bind_some, if_true]
     rw [hw, need_eq ⟨by omega, by omega, by omega⟩, hsub, hP]
     simp only [Option.bind_some, Bool.not_false, if_true]
     rw [need_eq ⟨by omega, by omega⟩, hb1]
     rfl
    rw [hloop]
    rfl
   ·have hcan' : (ds ++ [c]).length = 1 ∨ (ds ++ [c]).head? ≠ some 48 := by
     cases hds : ds with
     | nil => left; simp
     | cons a l =>
      right
      intro h
      refine hz ⟨by rw [hds]; simp, ?_⟩
      rw [hds]; simpa using h
    have hP : mewsref01.Parse (ds ++ [c]) = some ((dval (ds ++ [c]) : Int), true) := rParse_canon (by simp) hds' (by omega) (by simp; omega) hcan'
    have hn0 : ¬ (1 < ds.length + 1 ∧ dval ds = 0) := by
     rintro ⟨h1, h2⟩
     have hne : ds ≠ [] := by intro h; rw [h] at h1; simp at h1
     have := dval_pos ds hne hd (fun h => hz ⟨by omega, h⟩)
     omega
    rw [hdrGo, if_neg (by rintro ⟨h, _⟩; rw [h] at d1; exact absurd d1 (by decide)), if_neg (by rintro (h | h); exact h ⟨d1, d2⟩; exact hn0 h)]
    by_cases hov : most < 10 * dval ds + (c.toNat - 48)
    ·rw [if_pos hov]
     have hloop : mewsref05.first.loop0 s (most : Int) over ⟨((ds.length + 1 : Nat) : Int)⟩ = some (.inr (0, 0, over)) := by
      unfold mewsref05.first.loop0
      apply whileO_end
      unfold mewsref05.first.body0
      simp only
      rw [hguard]
      simp only [Option.bind_some, if_true]
      rw [hw, need_eq ⟨by omega, by omega, by omega⟩, hsub, hP]
      simp only [Option.bind_some, Bool.not_true, Bool.false_eq_true, if_false, letO]
      rw [decide_eq_true (by omega)]
      rfl
     rw [hloop]
     rfl
    ·rw [if_neg hov]
     have := ih (ds ++ [c]) (by rw [e]; simp) hds' (hcan'.imp (fun h => by omega) id) (by omega)
     have hll : (ds ++ [c]).length = ds.length + 1 := by simp
     rw [hll, hv'] at this
     rw [← this]
     have hstep : mewsref05.first.body0 s (most : Int) over ⟨((ds.length + 1 : Nat) : Int)⟩ = some (.inl ⟨((ds.length + 1 + 1 : Nat) : Int)⟩) := by
      unfold mewsref05.first.body0
      simp only
      rw [hguard]
      simp only [Option.bind_some, if_true]
      rw [hw, need_eq ⟨by omega, by omega, by omega⟩, hsub, hP]
      simp only [Option.bind_some, Bool.not_true, Bool.false_eq_true, if_false, letO]
      rw [decide_eq_false (by omega)]
      rfl
     have hl2 : mewsref05.first.loop0 s (most : Int) over ⟨((ds.length + 1 : Nat) : Int)⟩ = mewsref05.first.loop0 s (most : Int) over ⟨((ds.length + 1 + 1 : Nat) : Int)⟩ := by
      cases hq : mewsref05.first.loop0 s (most : Int) over ⟨((ds.length + 1 + 1 : Nat) : Int)⟩ with
      | none => rw [hq] at this; simp at this
      | some q => exact whileO_next hstep hq
     rw [hl2]
  ·-- no digit
   have hguard : (if ((ds.length + 1 : Nat) : Int) < (s.length : Int) then need (InB ((ds.length + 1 : Nat) : Int) s.length) (if 48 ≤ bix s ((ds.length + 1 : Nat) : Int) then need (InB ((ds.length + 1 : Nat) : Int) s.length) (some (decide (bix s ((ds.length + 1 : Nat) : Int) ≤ 57))) else some false) else some false) = some false := by
    unfold isDig at hdig
    rw [if_pos (by omega), need_eq ⟨by omega, by omega⟩, need_eq ⟨by omega, by omega⟩, hb]
    by_cases g : 48 ≤ (c.toNat : Int)
    ·rw [if_pos g, decide_eq_false (by omega)]
    ·rw [if_neg g]
   have hloop : mewsref05.first.loop0 s (most : Int) over ⟨((ds.length + 1 : Nat) : Int)⟩ = some (.inl ((ds.length + 1 : Nat) : Int)) := by
    unfold mewsref05.first.loop0
    apply whileO_end
    unfold mewsref05.first.body0
    simp only
    rw [hguard]
    rfl
   have hsub : sub s 1 ((ds.length + 1 : Nat) : Int) = ds := by
    have := sub_mid [m] ds (c :: t)
    rw [e]; simpa [Nat.add_comm] using this
   have hdrop : sub s ((ds.length + 1 : Nat) : Int) (s.length : Int) = c :: t := by
    rw [sub_all, Int.toNat_natCast, e']
    have : ds.length + 1 = (m :: ds).length := by simp
    rw [this, List.drop_left]
   have hb0 : bix (c :: t) 0 = (c.toNat : Int) := by
    have := bix_app [] t c
    simpa using this
   rw [hloop]
   simp only [Option.bind_some, onSum]
   rw [need_eq ⟨by omega, by omega, by omega⟩, hsub, rParse_digits ds hd (by omega) (by omega), Option.bind_some, need_eq ⟨by omega, by omega, by omega⟩, hdrop, if_neg (by simp), need_eq ⟨by omega, by simp⟩, hb0]
   rw [hdrGo]
   by_cases hc : c = 13 ∧ 1 < ds.length + 1
   ·have hne : ds ≠ [] := by intro h; rw [h] at hc; simp at hc
    have hcan2 : dtext (dval ds) = ds := by
     cases hk : ds.length with
     | zero => exact absurd (List.length_eq_zero_iff.1 hk) hne
     | succ k => exact dtext_dval k ds hk hd (hcan.imp (fun h => by omega) id)
    rw [if_pos hc, if_neg (by omega), if_pos hcan2]
    rw [show (c.toNat : Int) = 13 by rw [hc.1]; rfl]
    simp only [decide_true, Bool.not_true, Option.bind_some, Bool.false_eq_true, if_false]
    cases t with
    | nil => rfl
    | cons d t =>
     simp only [crEnd]
     have hb1 : bix (c :: d :: t) 1 = (d.toNat : Int) := by
      have := bix_app1 [] t c d
      simpa using this
     rw [if_neg (by simp; omega), need_eq ⟨by omega, by simp; omega⟩, hb1]
     by_cases hd10 : d = 10
     ·rw [if_pos (by rw [hd10]; rfl), if_pos hd10, i64w (by omega) (by omega)]
      rfl
     ·rw [if_neg (show ¬ (d.toNat : Int) = 10 from fun h => hd10 ((toNat_eq_iff d 10).1 h)), if_neg hd10]
      rfl
   ·rw [if_neg hc, if_pos (show ¬ isDig c ∨ (1 < ds.length + 1 ∧ dval ds = 0) from .inl hdig)]
    by_cases h1 : ds.length = 0
    ·rw [if_pos (by omega)]
     rfl
    ·have hne : ¬ (c.toNat : Int) = 13 := fun h => hc ⟨(toNat_eq_iff c 13).1 h, by omega⟩
     rw [if_neg (by omega), decide_eq_false hne]
     rfl

theorem first_eq (s : List UInt8) (mark : UInt8) (most : Nat) (over : Int) (hm : most ≤ 2000000) (hl : s.length ≤ 1000000000) :
  mewsref05.first s (mark.toNat : Int) (most : Int) over = some (hdrR (hdrM s mark most over)) := by
 unfold mewsref05.first
 cases s with
 | nil => rfl
 | cons c t =>
  have hb : bix (c :: t) 0 = (c.toNat : Int) := by
   have := bix_app [] t c
   simpa using this
  rw [if_neg (by simp), need_eq ⟨by omega, by simp⟩, hb, hdrM]
  by_cases hc : c = mark
  ·rw [if_pos (by rw [hc]), if_pos hc]
   exact first_go (c :: t) most over hm hl c t [] rfl (by simp) (.inl (by simp)) (by simp [dval])
  ·rw [if_neg (fun h => hc ((toNat_eq_iff c mark).1 h)), if_neg hc]
   rfl

end Go.Pu
