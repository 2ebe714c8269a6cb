import Derived.Test.YtmognhokagemiaaGreatRZPuParse3
import Derived.Test.YtmognhokagemiaaGreatRZPuBase
import Derived.Test.YtmognhokagemiaaGreatRZP
set_option maxRecDepth 100000
namespace Go.Pu
open Go.Lift

/-! ### How much there is -/
def lenS : List (List UInt8) → Nat
 | [] => 0
 | s :: l => s.length + lenS l
theorem lenS_append (a b : List (List UInt8)) : lenS (a ++ b) = lenS a + lenS b := by
 induction a with
 | nil => simp [lenS]
 | cons x a ih => simp [lenS, ih]; omega

end Go.Pu

set_option maxRecDepth 100000
namespace Go.Pu
open Go.Lift

/-! ### A decimal as a header -/
theorem hdr_digits {most : Nat} {over : Int} (rest : List UInt8) : ∀ (b a : List UInt8), (∀ c ∈ a ++ b, isDig c) → ((a ++ b).length = 1 ∨ (a ++ b).head? ≠ some 48) → 1 ≤ (a ++ b).length → dval a ≤ most →
  hdrGo most over (b ++ 13 :: 10 :: rest) (a.length + 1) (dval a) = if dval (a ++ b) ≤ most then .ok (dval (a ++ b)) (a.length + b.length + 3) else .dead over
 | [], a, hd, hc, hl, hv => by
  rw [List.append_nil] at hl hc ⊢
  rw [List.nil_append, hdrGo, if_pos ⟨rfl, by omega⟩, if_pos hv]
  simp [crEnd]
 | c :: b, a, hd, hc, hl, hv => by
  have hcd := hd c (by simp)
  obtain ⟨d1, d2⟩ := id hcd
  rw [List.cons_append, hdrGo, if_neg (by rintro ⟨h, _⟩; rw [h] at d1; exact absurd d1 (by decide))]
  have hn0 : ¬ (1 < a.length + 1 ∧ dval a = 0) := by
   rintro ⟨h1, h2⟩
   have hne : a ≠ [] := by intro h; rw [h] at h1; simp at h1
   have hh : a.head? ≠ some 48 := by
    rcases hc with hc | hc
    ·simp at hc; omega
    ·cases a with
     | nil => exact absurd rfl hne
     | cons x a => simpa using hc
   have := dval_pos a hne (fun x hx => hd x (by simp [hx])) hh
   omega
  rw [if_neg (by rintro (h | h); exact h hcd; exact hn0 h)]
  have hs := dval_snoc a c
  have happ : a ++ c :: b = (a ++ [c]) ++ b := by simp
  by_cases hov : most < 10 * dval a + (c.toNat - 48)
  ·rw [if_pos hov, if_neg]
   have := dval_take_le (a ++ c :: b) (a.length + 1)
   rw [happ, List.take_append_of_le_length (by simp), List.take_of_length_le (by simp), hs, ← happ] at this
   omega
  ·rw [if_neg hov, ← hs, show a.length + 1 + 1 = (a ++ [c]).length + 1 by simp]
   rw [hdr_digits rest b (a ++ [c]) (by rw [← happ]; exact hd) (by rw [← happ]; exact hc) (by rw [← happ]; exact hl) (by omega), ← happ]
   simp [Nat.add_assoc, Nat.add_comm 1]

theorem hdr_text {mark : UInt8} {most : Nat} {over : Int} (n : Nat) (rest : List UInt8) : hdrM (mark :: (dtext n ++ 13 :: 10 :: rest)) mark most over = if n ≤ most then .ok n ((dtext n).length + 3) else .dead over := by
 rw [hdrM, if_pos rfl]
 obtain ⟨h1, h2⟩ := dtext_dig n
 have hl := (dtext_len n).1
 have hc : (dtext n).length = 1 ∨ (dtext n).head? ≠ some 48 := by
  by_cases h : n < 10
  ·left; rw [dtext_small h]; rfl
  ·right; exact dtext_head (by omega)
 have := hdr_digits (most := most) (over := over) rest (dtext n) [] (by simpa using h1) (by simpa using hc) (by simpa using hl) (by simp [dval])
 simp only [List.nil_append, List.length_nil, Nat.zero_add, dval_nil] at this
 rw [this, h2]

/-! ### What is put -/
def putA (x : List UInt8) : List UInt8 := 36 :: (dtext x.length ++ 13 :: 10 :: (x ++ [13, 10]))
def putAs : List (List UInt8) → List UInt8
 | [] => []
 | x :: l => putA x ++ putAs l
def putM (args : List (List UInt8)) : List UInt8 := 42 :: (dtext args.length ++ 13 :: 10 :: putAs args)
theorem putAs_snoc (l : List (List UInt8)) (x : List UInt8) : putAs (l ++ [x]) = putAs l ++ putA x := by
 induction l with
 | nil => simp [putAs]
 | cons y l ih => simp [putAs, ih]
theorem putA_len (x : List UInt8) : (putA x).length = (dtext x.length).length + x.length + 5 := by simp [putA]; omega
/-! ### It is found again -/
/-- Arguments that are left to come. -/
theorem run_args (l : api.Limits) (hl : GoodL l) (out : List api.Request) (rest : List UInt8) : ∀ (xs args : List (List UInt8)) (size : Int) (q : parse.parser), xs ≠ [] →
  q = { in_ := { emptyIn with Args := args, Left := (xs.length : Int), Size := size }, s := putAs xs ++ rest, l := l, out := out } → PInv q →
  (runP q = runP (freshP rest l (out ++ [({ Args := args ++ xs, Size := size + (putAs xs).length } : api.Request)])) ∧ PInv (freshP rest l (out ++ [({ Args := args ++ xs, Size := size + (putAs xs).length } : api.Request)])) ∧ ∀ x ∈ xs, (x.length : Int) ≤ l.Bulk) ∨
  (∃ e, (e = 5 ∨ e = 6 ∨ e = 7 ∨ e = 16) ∧ runP q = deadP (freshP rest l out) e ∧ ∃ x ∈ xs, l.Bulk < (x.length : Int))
 | [], args, size, q, h, _, _ => absurd rfl h
 | x :: xs, args, size, q, _, e, hinv => by
  obtain ⟨b1, b2⟩ := hl.b
  have hs : q.s = 36 :: (dtext x.length ++ 13 :: 10 :: (x ++ 13 :: 10 :: (putAs xs ++ rest))) := by rw [e]; simp [putAs, putA]
  have hh := hdr_text (mark := 36) (most := l.Bulk.toNat) (over := 6) x.length (x ++ 13 :: 10 :: (putAs xs ++ rest))
  rw [← hs] at hh
  have hst : stepP q = (match hdrM q.s 36 l.Bulk.toNat 6 with | .more => (false, q) | .dead e => (false, deadP q e) | .ok n k => (true, argHP q n k)) := by
   unfold stepP
   rw [if_neg (by rw [e]; simp), if_pos (by rw [e]; show (0 : Int) < ((x :: xs).length : Int); simp)]
   rw [show q.l = l by rw [e]]
   rfl
  rw [hh] at hst
  by_cases hb : x.length ≤ l.Bulk.toNat
  ·rw [if_pos hb] at hst
   simp only at hst
   have hs1 : (stepP q).1 = true := by rw [hst]
   have inv1 := (stepP_ok hinv hs1).1
   have hrun1 := runP_next hinv hs1
   rw [hst] at inv1 hrun1
   simp only at inv1 hrun1
   have hq1 : argHP q x.length ((dtext x.length).length + 3) = { in_ := { emptyIn with Args := args, Left := ((x :: xs).length : Int), Size := size + ((dtext x.length).length + 3 : Nat), Body := true, Need := (x.length : Int) }, s := x ++ 13 :: 10 :: (putAs xs ++ rest), l := l, out := out } := by
    unfold argHP pastP
    have hsd : q.s.drop ((dtext x.length).length + 3) = x ++ 13 :: 10 :: (putAs xs ++ rest) := by
     rw [hs, show (dtext x.length).length + 3 = (36 :: (dtext x.length ++ [13, 10])).length by simp]
     rw [show (36 :: (dtext x.length ++ 13 :: 10 :: (x ++ 13 :: 10 :: (putAs xs ++ rest)))) = (36 :: (dtext x.length ++ [13, 10])) ++ (x ++ 13 :: 10 :: (putAs xs ++ rest)) by simp, List.drop_left]
    rw [hsd, e]
   rw [hq1] at inv1 hrun1
   -- the body
   generalize hq1' : ({ in_ := { emptyIn with Args := args, Left := ((x :: xs).length : Int), Size := size + ((dtext x.length).length + 3 : Nat), Body := true, Need := (x.length : Int) }, s := x ++ 13 :: 10 :: (putAs xs ++ rest), l := l, out := out } : parse.parser) = q1 at inv1 hrun1
   have hn : needN q1 = x.length := by rw [← hq1']; simp [needN]
   have hs1' : q1.s = x ++ 13 :: 10 :: (putAs xs ++ rest) := by rw [← hq1']
   have hst1 : stepP q1 = (true, bodyP q1) := by
    unfold stepP
    rw [if_pos (by rw [← hq1']), hn, hs1', List.drop_left]
    rfl
   have hs2 : (stepP q1).1 = true := by rw [hst1]
   have inv2 := (stepP_ok inv1 hs2).1
   have hrun2 := runP_next inv1 hs2
   rw [hst1] at inv2 hrun2
   simp only at inv2 hrun2
   have htk : q1.s.take x.length = x := by rw [hs1', List.take_left]
   have hdr : q1.s.drop (x.length + 2) = putAs xs ++ rest := by
    rw [hs1', show x.length + 2 = (x ++ [13, 10]).length by simp, show x ++ 13 :: 10 :: (putAs xs ++ rest) = (x ++ [13, 10]) ++ (putAs xs ++ rest) by simp, List.drop_left]
   have hsz : size + ((dtext x.length).length + 3 : Nat) + ((x.length + 2 : Nat) : Int) = size + ((putA x).length : Int) := by rw [putA_len]; omega
   cases xs with
   | nil =>
    have hbp : bodyP q1 = freshP rest l (out ++ [({ Args := args ++ [x], Size := size + (putAs [x]).length } : api.Request)]) := by
     unfold bodyP
     rw [hn, htk, hdr]
     rw [← hq1']
     rw [if_pos (by simp)]
     simp only [hsz, putAs, List.append_nil, List.nil_append]
     rfl
    rw [hbp] at inv2 hrun2
    exact .inl ⟨hrun1.trans hrun2, inv2, fun y hy => by rw [List.mem_singleton] at hy; subst hy; omega⟩
   | cons y ys =>
    have hbp : bodyP q1 = { in_ := { emptyIn with Args := args ++ [x], Left := ((y :: ys).length : Int), Size := size + ((putA x).length : Int) }, s := putAs (y :: ys) ++ rest, l := l, out := out } := by
     unfold bodyP
     rw [hn, htk, hdr]
     rw [← hq1']
     rw [if_neg (by simp; omega)]
     simp only [hsz]
     congr 2
     simp
    rw [hbp] at inv2 hrun2
    have ih := run_args l hl out rest (y :: ys) (args ++ [x]) (size + ((putA x).length : Int)) _ (by simp) rfl inv2
    have ea : args ++ [x] ++ (y :: ys) = args ++ x :: y :: ys := by simp
    have es : size + ((putA x).length : Int) + ((putAs (y :: ys)).length : Int) = size + ((putAs (x :: y :: ys)).length : Int) := by
     rw [show putAs (x :: y :: ys) = putA x ++ putAs (y :: ys) from rfl, List.length_append]; omega
    rw [ea, es] at ih
    rcases ih with ⟨h1, h2, h3⟩ | ⟨e', h1, h2, y', hy1, hy2⟩
    ·exact .inl ⟨(hrun1.trans hrun2).trans h1, h2, fun z hz => (List.mem_cons.1 hz).elim (fun e => by subst e; omega) (h3 z)⟩
    ·exact .inr ⟨e', h1, (hrun1.trans hrun2).trans h2, y', List.mem_cons_of_mem _ hy1, hy2⟩
  ·rw [if_neg hb] at hst
   simp only at hst
   refine .inr ⟨6, by omega, ?_, x, by simp, by omega⟩
   rw [runP_stop (by rw [hst]), hst, e]
   rfl

/-- A request that was put. -/
theorem run_putB (l : api.Limits) (hl : GoodL l) (out : List api.Request) (rest : List UInt8) (args : List (List UInt8)) (hinv : PInv (freshP (putM args ++ rest) l out)) :
  ((args.length : Int) ≤ l.Args ∧ runP (freshP (putM args ++ rest) l out) = runP (freshP rest l (if args = [] then out else out ++ [({ Args := args, Size := ((putM args).length : Int) } : api.Request)])) ∧ PInv (freshP rest l (if args = [] then out else out ++ [({ Args := args, Size := ((putM args).length : Int) } : api.Request)])) ∧ ∀ x ∈ args, (x.length : Int) ≤ l.Bulk) ∨
  (∃ e, (e = 5 ∨ e = 6 ∨ e = 7 ∨ e = 16) ∧ runP (freshP (putM args ++ rest) l out) = deadP (freshP rest l out) e ∧ (l.Args < (args.length : Int) ∨ ∃ x ∈ args, l.Bulk < (x.length : Int))) := by
 obtain ⟨a1, a2⟩ := hl.a
 have hs : putM args ++ rest = 42 :: (dtext args.length ++ 13 :: 10 :: (putAs args ++ rest)) := by simp [putM]
 have hh := hdr_text (mark := 42) (most := l.Args.toNat) (over := 7) args.length (putAs args ++ rest)
 have hst : stepP (freshP (putM args ++ rest) l out) = (match hdrM (putM args ++ rest) 42 l.Args.toNat 7 with | .more => (false, freshP (putM args ++ rest) l out) | .dead e => (false, deadP (freshP (putM args ++ rest) l out) e) | .ok n k => (true, manyHP (freshP (putM args ++ rest) l out) n k)) := by
  unfold stepP
  rw [if_neg (by simp [freshP]), if_neg (by show ¬ (0 : Int) < 0; omega)]
  have hss : (freshP (putM args ++ rest) l out).s = putM args ++ rest := rfl
  rw [hss, hs]
  rfl
 rw [hs, hh, ← hs] at hst
 by_cases hb : args.length ≤ l.Args.toNat
 ·rw [if_pos hb] at hst
  simp only at hst
  have hs1 : (stepP (freshP (putM args ++ rest) l out)).1 = true := by rw [hst]
  have inv1 := (stepP_ok hinv hs1).1
  have hrun1 := runP_next hinv hs1
  rw [hst] at inv1 hrun1
  simp only at inv1 hrun1
  have hsd : (putM args ++ rest).drop ((dtext args.length).length + 3) = putAs args ++ rest := by
   rw [hs, show (dtext args.length).length + 3 = (42 :: (dtext args.length ++ [13, 10])).length by simp]
   rw [show (42 :: (dtext args.length ++ 13 :: 10 :: (putAs args ++ rest))) = (42 :: (dtext args.length ++ [13, 10])) ++ (putAs args ++ rest) by simp, List.drop_left]
  cases args with
  | nil =>
   have e1 : manyHP (freshP (putM [] ++ rest) l out) 0 ((dtext 0).length + 3) = freshP rest l out := by
    unfold manyHP wholeP pastP
    rw [if_pos rfl]
    show ({ in_ := emptyIn, s := (putM [] ++ rest).drop _, l := l, out := out } : parse.parser) = _
    have := hsd
    simp only [List.length_nil, putAs, List.nil_append] at this
    rw [this]; rfl
   simp only [List.length_nil] at inv1 hrun1
   rw [e1] at inv1 hrun1
   exact .inl ⟨by simp; omega, hrun1, inv1, fun x hx => by cases hx⟩
  | cons x xs =>
   have e1 : manyHP (freshP (putM (x :: xs) ++ rest) l out) (x :: xs).length ((dtext (x :: xs).length).length + 3) = { in_ := { emptyIn with Args := [], Left := ((x :: xs).length : Int), Size := ((dtext (x :: xs).length).length + 3 : Nat) }, s := putAs (x :: xs) ++ rest, l := l, out := out } := by
    unfold manyHP pastP
    rw [if_neg (by simp)]
    show ({ in_ := { emptyIn with Left := ((x :: xs).length : Int), Size := (0 : Int) + _ }, s := (putM (x :: xs) ++ rest).drop _, l := l, out := out } : parse.parser) = _
    rw [hsd, Int.zero_add]
   rw [e1] at inv1 hrun1
   have := run_args l hl out rest (x :: xs) [] _ _ (by simp) rfl inv1
   have es : (((dtext (x :: xs).length).length + 3 : Nat) : Int) + ((putAs (x :: xs)).length : Int) = ((putM (x :: xs)).length : Int) := by simp [putM]; omega
   rw [es, List.nil_append] at this
   rcases this with ⟨h1, h2, h2b⟩ | ⟨e, h1, h2, h3⟩
   ·exact .inl ⟨by omega, hrun1.trans h1, h2, h2b⟩
   ·exact .inr ⟨e, h1, hrun1.trans h2, .inr h3⟩
 ·rw [if_neg hb] at hst
  simp only at hst
  refine .inr ⟨7, by omega, ?_, .inl (by omega)⟩
  rw [runP_stop (by rw [hst]), hst]
  rfl

/-- A request that was put. -/
theorem run_put (l : api.Limits) (hl : GoodL l) (out : List api.Request) (rest : List UInt8) (args : List (List UInt8)) (hinv : PInv (freshP (putM args ++ rest) l out)) :
  ((args.length : Int) ≤ l.Args ∧ runP (freshP (putM args ++ rest) l out) = runP (freshP rest l (if args = [] then out else out ++ [({ Args := args, Size := ((putM args).length : Int) } : api.Request)])) ∧ PInv (freshP rest l (if args = [] then out else out ++ [({ Args := args, Size := ((putM args).length : Int) } : api.Request)]))) ∨
  (∃ e, (e = 5 ∨ e = 6 ∨ e = 7 ∨ e = 16) ∧ runP (freshP (putM args ++ rest) l out) = deadP (freshP rest l out) e ∧ (l.Args < (args.length : Int) ∨ ∃ x ∈ args, l.Bulk < (x.length : Int))) := by
 rcases run_putB l hl out rest args hinv with ⟨h1, h2, h3, _⟩ | h
 ·exact .inl ⟨h1, h2, h3⟩
 ·exact .inr h

end Go.Pu

set_option maxRecDepth 100000
namespace Go.Pu
open Go.Lift

/-! ### A decimal -/
theorem set_drop (vec : List UInt8) (a : Nat) (d : UInt8) (h : a < vec.length) : (vec.set a d).drop a = d :: vec.drop (a + 1) := by
 rw [List.drop_eq_getElem_cons (by simpa using h)]
 simp [List.drop_set_of_lt]

theorem digit_u8 (u : Nat) (h : u < 9223372036854775808) : IntKind.wrap .u8 (IntKind.wrap .u64 (48 + ((u : Int).tmod 10))) = ((48 + u % 10 : Nat) : Int) ∧ u8 (((48 + u % 10 : Nat) : Int)) = UInt8.ofNat (48 + u % 10) := by
 have e : (u : Int).tmod 10 = ((u % 10 : Nat) : Int) := rfl
 rw [e, u64w (by omega) (by omega), u8w (by omega) (by omega)]
 refine ⟨by omega, ?_⟩
 unfold u8
 rw [Int.toNat_natCast]

theorem Text_loop : ∀ (n u a : Nat) (vec : List UInt8), u ≤ n → u < 9223372036854775808 → vec.length = 20 → a ≤ 20 → (dtext u).length ≤ a →
  ∃ (k : Nat) (vec' : List UInt8), num.Text.loop0 ⟨(a : Int), (u : Int), vec⟩ = some ((k : Int), vec') ∧ vec'.length = 20 ∧ k ≤ 20 ∧ vec'.drop k = dtext u ++ vec.drop a := by
 intro n
 induction n with
 | zero =>
  intro u a vec hu hb hv ha hl
  obtain rfl : u = 0 := by omega
  have h1 := (dtext_len 0).1
  have hb : num.Text.body0 ⟨(a : Int), ((0 : Nat) : Int), vec⟩ = some (.inr (((a - 1 : Nat) : Int), vec.set (a - 1) 48)) := by
   unfold num.Text.body0
   have e : ((a : Int) - 1) = ((a - 1 : Nat) : Int) := by omega
   simp only
   rw [e, i64w (by omega) (by omega), (digit_u8 0 (by omega)).1, (digit_u8 0 (by omega)).2]
   rw [need_eq ⟨by omega, by omega⟩, need_eq hv, need_eq ⟨by omega, by rw [hv]; omega⟩, need_eq ⟨by omega, by omega⟩, if_pos (by rfl)]
   rfl
  refine ⟨a - 1, _, whileO_end hb, by simpa using hv, by omega, ?_⟩
  rw [set_drop _ _ _ (by omega), show a - 1 + 1 = a by omega, dtext_small (by omega)]
  rfl
 | succ n ih =>
  intro u a vec hu hb hv ha hl
  have h1 := (dtext_len u).1
  have e : ((a : Int) - 1) = ((a - 1 : Nat) : Int) := by omega
  have hd := digit_u8 u hb
  have hq : (u : Int).tdiv 10 = ((u / 10 : Nat) : Int) := rfl
  by_cases h10 : u < 10
  ·have hbd : num.Text.body0 ⟨(a : Int), (u : Int), vec⟩ = some (.inr (((a - 1 : Nat) : Int), vec.set (a - 1) (UInt8.ofNat (48 + u % 10)))) := by
    unfold num.Text.body0
    simp only
    rw [e, i64w (by omega) (by omega), hd.1, hd.2, hq, u64w (n := ((u / 10 : Nat) : Int)) (by omega) (by omega)]
    rw [need_eq ⟨by omega, by omega⟩, need_eq hv, need_eq ⟨by omega, by rw [hv]; omega⟩, need_eq ⟨by omega, by omega⟩, if_pos (by omega)]
    rfl
   refine ⟨a - 1, _, whileO_end hbd, by simpa using hv, by omega, ?_⟩
   rw [set_drop _ _ _ (by omega), show a - 1 + 1 = a by omega, dtext_small h10, show u % 10 = u by omega]
   rfl
  ·have hbd : num.Text.body0 ⟨(a : Int), (u : Int), vec⟩ = some (.inl ⟨((a - 1 : Nat) : Int), ((u / 10 : Nat) : Int), vec.set (a - 1) (UInt8.ofNat (48 + u % 10))⟩) := by
    unfold num.Text.body0
    simp only
    rw [e, i64w (by omega) (by omega), hd.1, hd.2, hq, u64w (n := ((u / 10 : Nat) : Int)) (by omega) (by omega)]
    rw [need_eq ⟨by omega, by omega⟩, need_eq hv, need_eq ⟨by omega, by rw [hv]; omega⟩, need_eq ⟨by omega, by omega⟩, if_neg (by omega)]
    rfl
   have hle : (dtext u).length = (dtext (u / 10)).length + 1 := by rw [dtext_big h10]; simp
   obtain ⟨k, vec', g1, g2, g3, g4⟩ := ih (u / 10) (a - 1) (vec.set (a - 1) (UInt8.ofNat (48 + u % 10))) (by omega) (by omega) (by simpa using hv) (by omega) (by omega)
   refine ⟨k, vec', whileO_next hbd g1, g2, g3, ?_⟩
   rw [g4, set_drop _ _ _ (by omega), show a - 1 + 1 = a by omega, dtext_big h10]
   simp

theorem Text_eq (v : Nat) (h : v < 9223372036854775808) : num.Text (v : Int) = some (dtext v) := by
 unfold num.Text letO
 rw [if_neg (by omega), u64w (by omega) (by omega)]
 obtain ⟨k, vec', g1, g2, g3, g4⟩ := Text_loop v v 20 (List.replicate 20 (0 : UInt8)) (Nat.le_refl _) h (by simp) (by omega) (by have := dtext_len2 18 v (by omega); omega)
 show (num.Text.loop0 ⟨((20 : Nat) : Int), (v : Int), List.replicate 20 (0 : UInt8)⟩).bind _ = _
 rw [g1]
 simp only [Option.bind_some]
 rw [if_neg (by omega)]
 simp only [Option.bind_some]
 rw [need_eq ⟨by omega, by omega, by omega⟩, need_eq g2, sub_all, Int.toNat_natCast, g4]
 simp

/-! ### A request's bytes -/
theorem lenS_at : ∀ (l : List (List UInt8)) (j : Nat) (hj : j < l.length), l[j].length ≤ lenS l
 | x :: l, 0, _ => by simp [lenS]
 | x :: l, j + 1, hj => by have := lenS_at l j (by simpa using hj); simp only [lenS, List.getElem_cons_succ]; omega
theorem lenS_take : ∀ (l : List (List UInt8)) (j : Nat), lenS (l.take j) ≤ lenS l
 | [], j => by simp [lenS]
 | x :: l, 0 => by simp [lenS]
 | x :: l, j + 1 => by have := lenS_take l j; simp only [lenS, List.take_succ_cons]; omega
theorem dtext7 {v : Nat} (h : v ≤ 1000000) : (dtext v).length ≤ 7 := dtext_len2 6 v (by omega)
theorem putAs_lenB : ∀ (l : List (List UInt8)), lenS l ≤ 1000000 → (putAs l).length ≤ lenS l + 12 * l.length
 | [], _ => by simp [putAs]
 | x :: l, h => by
  simp only [lenS] at h
  have := putAs_lenB l (by omega)
  have := dtext7 (v := x.length) (by omega)
  simp only [putAs, lenS, List.length_append, putA_len, List.length_cons]; omega
theorem putM_lenB (l : List (List UInt8)) (h : lenS l ≤ 1000000) (h2 : l.length ≤ 1000000) : (putM l).length ≤ lenS l + 12 * l.length + 10 := by
 have := putAs_lenB l h
 have := dtext7 h2
 simp [putM]; omega

theorem Put_eq (args : List (List UInt8)) (h : lenS args ≤ 1000000) (hl : args.length ≤ 1000000) : parse.Put args = some (putM args) := by
 have hdl := dtext7 hl
 unfold parse.Put
 rw [Text_eq _ (by omega)]
 simp only [Option.bind_some]
 rw [need_eq (by simp; omega), need_eq (by simp; omega), need_eq (by simp; omega)]
 have hloop : parse.Put.loop0 args ⟨0, ([] : List UInt8) ++ (([42] ++ dtext args.length) ++ [13, 10])⟩ = some (putM args) := by
  unfold parse.Put.loop0
  refine whileO_knownE _ (fun i => (⟨(i : Int), 42 :: (dtext args.length ++ 13 :: 10 :: putAs (args.take i))⟩ : parse.Put.S0)) args.length (fun i hi => ?_) ?_ (by simp [putAs])
  ·have h1 := lenS_at args i hi
   have h2 := dtext7 (v := args[i].length) (by omega)
   have hlt := lenS_take args i
   have hpt := putAs_lenB (args.take i) (by omega)
   have hlk : (args.take i).length ≤ 1000000 := by simp; omega
   unfold parse.Put.body0
   simp only [letO]
   rw [if_pos (by omega), need_eq ⟨by omega, by omega⟩, ix_get hi, Text_eq _ (by omega)]
   simp only [Option.bind_some]
   rw [need_eq (by simp; omega), need_eq (by simp; omega), need_eq (by simp; omega), need_eq (by simp; omega), need_eq (by simp; omega), i64w (by omega) (by omega)]
   rw [List.take_add_one, List.getElem?_eq_getElem hi]
   simp only [Option.toList_some]
   rw [putAs_snoc]
   simp [putA]
  ·unfold parse.Put.body0
   simp only
   rw [if_neg (by omega), List.take_length]
   rfl
 rw [hloop]
 rfl

theorem rPutB_eq (args : List (List UInt8)) (h : lenS args ≤ 1000000) (hl : args.length ≤ 1000000) : mewsref05.Put args = some (putM args) := by
 have hdl := dtext7 hl
 unfold mewsref05.Put
 rw [rText_eq _ (by omega)]
 simp only [Option.bind_some]
 rw [need_eq (by simp; omega), need_eq (by simp; omega)]
 have hloop : mewsref05.Put.loop0 args ⟨([42] ++ dtext args.length) ++ [13, 10], 0⟩ = some (putM args) := by
  unfold mewsref05.Put.loop0
  let st : Nat → mewsref05.Put.S0 := fun i => ⟨([42] ++ dtext args.length) ++ [13, 10] ++ putAs (args.take i), (i : Int)⟩
  refine whileO_knownE _ st args.length (fun i hi => ?_) ?_ (by simp [st, putAs])
  ·have h1 := lenS_at args i hi
   have h2 := dtext7 (v := args[i].length) (by omega)
   have hlt := lenS_take args i
   have hpt := putAs_lenB (args.take i) (by omega)
   have hlk : (args.take i).length ≤ 1000000 := by simp; omega
   unfold mewsref05.Put.body0
   simp only [st, letO]
   rw [if_pos (by omega), need_eq ⟨by omega, by omega⟩, ix_get hi, rText_eq _ (by omega)]
   simp only [Option.bind_some]
   rw [need_eq (by simp; omega), need_eq (by simp; omega), need_eq ⟨by omega, by omega⟩, need_eq (by simp; omega), need_eq (by simp; omega), need_eq (by simp; omega), i64w (by omega) (by omega)]
   rw [List.take_add_one, List.getElem?_eq_getElem hi]
   simp only [Option.toList_some]
   rw [putAs_snoc]
   simp [putA]
  ·unfold mewsref05.Put.body0
   simp only [st]
   rw [if_neg (by omega), List.take_length]
   simp [putM]
 rw [hloop]
 rfl

end Go.Pu

set_option maxRecDepth 100000
namespace Go.Pu
open Go.Lift

def putL : List (List (List UInt8)) → List UInt8
 | [] => []
 | a :: l => putM a ++ putL l
theorem putL_snoc (l : List (List (List UInt8))) (x : List (List UInt8)) : putL (l ++ [x]) = putL l ++ putM x := by
 induction l with
 | nil => simp [putL]
 | cons y l ih => simp [putL, ih]
end Go.Pu

set_option maxRecDepth 100000
namespace Go.Pu
open Go.Lift

theorem u32_xor (a b : Nat) (ha : a < 4294967296) (hb : b < 4294967296) : Go.bits .xor .u32 (a : Int) (b : Int) = ((a ^^^ b : Nat) : Int) := by
 have hx : a ^^^ b < 2 ^ 32 := Nat.xor_lt_two_pow (by omega) (by omega)
 have h1 : (BitVec.ofInt 32 (a : Int)).toNat = a := by
  rw [BitVec.ofInt_natCast, BitVec.toNat_ofNat]; exact Nat.mod_eq_of_lt (by omega)
 have h2 : (BitVec.ofInt 32 (b : Int)).toNat = b := by
  rw [BitVec.ofInt_natCast, BitVec.toNat_ofNat]; exact Nat.mod_eq_of_lt (by omega)
 show IntKind.u32.wrap ((BitVec.ofInt 32 (a : Int) ^^^ BitVec.ofInt 32 (b : Int)).toNat : Int) = _
 rw [BitVec.toNat_xor, h1, h2, u32w (by omega) (by omega)]

theorem u32_and (a b : Nat) (ha : a < 4294967296) (hb : b < 4294967296) : Go.bits .and .u32 (a : Int) (b : Int) = ((a &&& b : Nat) : Int) := by
 have hx : a &&& b < 2 ^ 32 := Nat.and_lt_two_pow _ (by omega)
 have h1 : (BitVec.ofInt 32 (a : Int)).toNat = a := by
  rw [BitVec.ofInt_natCast, BitVec.toNat_ofNat]; exact Nat.mod_eq_of_lt (by omega)
 have h2 : (BitVec.ofInt 32 (b : Int)).toNat = b := by
  rw [BitVec.ofInt_natCast, BitVec.toNat_ofNat]; exact Nat.mod_eq_of_lt (by omega)
 show IntKind.u32.wrap ((BitVec.ofInt 32 (a : Int) &&& BitVec.ofInt 32 (b : Int)).toNat : Int) = _
 rw [BitVec.toNat_and, h1, h2, u32w (by omega) (by omega)]

def polyN : Nat := 3988292384
def stepN (n : Nat) : Nat := (n / 2) ^^^ (if n % 2 = 1 then polyN else 0)
def stepsN : Nat → Nat → Nat
 | 0, n => n
 | k + 1, n => stepN (stepsN k n)
def byteN (n b : Nat) : Nat := stepsN 8 (n ^^^ b)
def moreN (n : Nat) (s : List UInt8) : Nat := s.foldl (fun n b => byteN n b.toNat) n
def ofN (s : List UInt8) : Nat := moreN 4294967295 s ^^^ 4294967295
def le4 (n : Nat) : List UInt8 := [UInt8.ofNat n, UInt8.ofNat (n / 256), UInt8.ofNat (n / 65536), UInt8.ofNat (n / 16777216)]
def sealN (s : List UInt8) : List UInt8 := s ++ le4 (ofN s)

theorem stepN_lt {n : Nat} (h : n < 4294967296) : stepN n < 4294967296 := by
 unfold stepN polyN
 have : (n / 2) ^^^ (if n % 2 = 1 then 3988292384 else 0) < 2 ^ 32 := Nat.xor_lt_two_pow (by omega) (by split <;> omega)
 simpa using this
theorem stepsN_lt {n : Nat} (h : n < 4294967296) : ∀ k, stepsN k n < 4294967296
 | 0 => h
 | k + 1 => stepN_lt (stepsN_lt h k)
theorem byteN_lt {n b : Nat} (h : n < 4294967296) (hb : b < 256) : byteN n b < 4294967296 := by
 refine stepsN_lt ?_ 8
 have : n ^^^ b < 2 ^ 32 := Nat.xor_lt_two_pow (by omega) (by omega)
 simpa using this
theorem moreN_lt : ∀ (s : List UInt8) {n : Nat}, n < 4294967296 → moreN n s < 4294967296
 | [], n, h => h
 | b :: s, n, h => moreN_lt s (n := byteN n b.toNat) (byteN_lt h b.toNat_lt)
theorem ofN_lt (s : List UInt8) : ofN s < 4294967296 := by
 have : ofN s < 2 ^ 32 := Nat.xor_lt_two_pow (by simpa using moreN_lt s (n := 4294967295) (by omega)) (by omega)
 simpa using this
theorem moreN_snoc (n : Nat) (s : List UInt8) (b : UInt8) : moreN n (s ++ [b]) = byteN (moreN n s) b.toNat := by simp [moreN, List.foldl_append]
theorem sealN_len (s : List UInt8) : (sealN s).length = s.length + 4 := by simp [sealN, le4]

theorem u8_wrap (n : Nat) : u8 (IntKind.wrap .u8 (n : Int)) = UInt8.ofNat n := by
 have e : IntKind.wrap .u8 (n : Int) = ((n % 256 : Nat) : Int) := by
  simp [IntKind.wrap, IntKind.bits, IntKind.signed]
 rw [e]
 unfold u8
 rw [Int.toNat_natCast]
 apply UInt8.toNat_inj.1
 simp
theorem u8_wrap_ok (n : Int) : IsU8 (IntKind.wrap .u8 n) := by
 simp [IntKind.wrap, IntKind.bits, IntKind.signed]; omega

/-! ### The program's -/
theorem stepGo (n : Nat) (h : n < 4294967296) :
  Go.bits .xor .u32 ((n : Int) / 2 ^ min (Int.toNat 1) (IntKind.bits .u32)) (Go.bits .and .u32 3988292384 (IntKind.wrap .u32 (0 - (Go.bits .and .u32 (n : Int) 1)))) = ((stepN n : Nat) : Int) := by
 have h1 : Go.bits .and .u32 (n : Int) 1 = ((n % 2 : Nat) : Int) := by
  have := u32_and n 1 h (by omega)
  rw [Nat.and_one_is_mod] at this
  exact this
 have hd : ((n : Int) / 2 ^ min (Int.toNat 1) (IntKind.bits .u32)) = ((n / 2 : Nat) : Int) := by
  have : ((2 : Int) ^ min (Int.toNat 1) (IntKind.bits .u32)) = 2 := rfl
  rw [this]; omega
 rw [h1, hd]
 unfold stepN polyN
 rcases Nat.mod_two_eq_zero_or_one n with h2 | h2
 ·rw [h2, if_neg (by omega)]
  have : IntKind.wrap .u32 (0 - ((0 : Nat) : Int)) = ((0 : Nat) : Int) := rfl
  rw [this]
  have h3 := u32_and 3988292384 0 (by omega) (by omega)
  rw [show (3988292384 : Int) = ((3988292384 : Nat) : Int) from rfl, h3, Nat.and_zero]
  exact u32_xor (n / 2) 0 (by omega) (by omega)
 ·rw [h2, if_pos rfl]
  have : IntKind.wrap .u32 (0 - ((1 : Nat) : Int)) = ((4294967295 : Nat) : Int) := rfl
  rw [this]
  have h3 := u32_and 3988292384 4294967295 (by omega) (by omega)
  rw [show (3988292384 : Int) = ((3988292384 : Nat) : Int) from rfl, h3]
  have h4 : 3988292384 &&& 4294967295 = 3988292384 := by decide
  rw [h4]
  exact u32_xor (n / 2) 3988292384 (by omega) (by omega)

theorem xor_byte {n b : Nat} (h : n < 4294967296) (hb : b < 256) : n ^^^ b < 4294967296 := by
 have : n ^^^ b < 2 ^ 32 := Nat.xor_lt_two_pow (by omega) (by omega)
 simpa using this

theorem cByte_eq (n b : Nat) (h : n < 4294967296) (hb : b < 256) : crc.Byte (n : Int) (b : Int) = some ((byteN n b : Nat) : Int) := by
 unfold crc.Byte
 rw [u32w (n := (b : Int)) (by omega) (by omega), u32_xor n b h (by omega)]
 have hx := xor_byte h hb
 have : crc.Byte.loop0 ⟨((n ^^^ b : Nat) : Int), 0⟩ = some ((byteN n b : Nat) : Int) := by
  unfold crc.Byte.loop0
  refine whileO_knownE _ (fun i => (⟨((stepsN i (n ^^^ b) : Nat) : Int), (i : Int)⟩ : crc.Byte.S0)) 8 (fun i hi => ?_) ?_ rfl
  ·unfold crc.Byte.body0
   simp only
   rw [if_pos (by omega), stepGo _ (stepsN_lt hx i), i64w (by omega) (by omega)]
   rfl
  ·unfold crc.Byte.body0
   simp only
   rw [if_neg (by omega)]
   rfl
 rw [this]
 rfl

theorem rByte_eq (n b : Nat) (h : n < 4294967296) (hb : b < 256) : mewsref14.Byte (n : Int) (b : Int) = some ((byteN n b : Nat) : Int) := by
 unfold mewsref14.Byte
 rw [u32w (n := (b : Int)) (by omega) (by omega), u32_xor n b h (by omega)]
 have hx := xor_byte h hb
 have : mewsref14.Byte.loop0 ⟨((n ^^^ b : Nat) : Int), 0⟩ = some ((byteN n b : Nat) : Int) := by
  unfold mewsref14.Byte.loop0
  refine whileO_knownE _ (fun i => (⟨((stepsN i (n ^^^ b) : Nat) : Int), (i : Int)⟩ : mewsref14.Byte.S0)) 8 (fun i hi => ?_) ?_ rfl
  ·unfold mewsref14.Byte.body0
   simp only
   have hlt := stepsN_lt hx i
   generalize hm : stepsN i (n ^^^ b) = m at hlt
   have ht : (m : Int).tdiv 2 = ((m / 2 : Nat) : Int) := rfl
   have hmd : (m : Int).tmod 2 = ((m % 2 : Nat) : Int) := rfl
   rw [if_pos (by omega), i64w (by omega) (by omega), ht, hmd, u32w (by omega) (by omega)]
   have hs : stepsN (i + 1) (n ^^^ b) = stepN m := by rw [← hm]; rfl
   rw [hs]
   unfold stepN polyN letO
   rcases Nat.mod_two_eq_zero_or_one m with h2 | h2
   ·rw [h2, if_neg (by omega), if_neg (by omega), Nat.xor_zero]; rfl
   ·rw [h2, if_pos rfl, if_pos (by rfl)]
    have := u32_xor (m / 2) 3988292384 (by omega) (by omega)
    rw [show (3988292384 : Int) = ((3988292384 : Nat) : Int) from rfl, this]; rfl
  ·unfold mewsref14.Byte.body0
   simp only
   rw [if_neg (by omega)]
   rfl
 rw [this]
 rfl

theorem cMore_eq (n : Nat) (s : List UInt8) (h : n < 4294967296) (hs : s.length ≤ 1000000000) : crc.More (n : Int) s = some ((moreN n s : Nat) : Int) := by
 unfold crc.More
 have : crc.More.loop0 s ⟨(n : Int), 0⟩ = some ((moreN n s : Nat) : Int) := by
  unfold crc.More.loop0
  refine whileO_knownE _ (fun i => (⟨((moreN n (s.take i) : Nat) : Int), (i : Int)⟩ : crc.More.S0)) s.length (fun i hi => ?_) ?_ (by simp [moreN])
  ·unfold crc.More.body0
   simp only
   rw [if_pos (by omega), need_eq ⟨by omega, by omega⟩, bix_get' hi, cByte_eq _ _ (moreN_lt _ h) (UInt8.toNat_lt _)]
   simp only [Option.bind_some]
   rw [i64w (by omega) (by omega), List.take_add_one, List.getElem?_eq_getElem hi]
   simp only [Option.toList_some]
   rw [moreN_snoc]; rfl
  ·unfold crc.More.body0
   simp only
   rw [if_neg (by omega), List.take_length]
 rw [this]
 rfl

theorem rMore_eq (n : Nat) (s : List UInt8) (h : n < 4294967296) (hs : s.length ≤ 1000000000) : mewsref14.More (n : Int) s = some ((moreN n s : Nat) : Int) := by
 unfold mewsref14.More
 have : mewsref14.More.loop0 s ⟨(n : Int), 0⟩ = some ((moreN n s : Nat) : Int) := by
  unfold mewsref14.More.loop0
  refine whileO_knownE _ (fun i => (⟨((moreN n (s.take i) : Nat) : Int), (i : Int)⟩ : mewsref14.More.S0)) s.length (fun i hi => ?_) ?_ (by simp [moreN])
  ·unfold mewsref14.More.body0
   simp only
   rw [if_pos (by omega), need_eq ⟨by omega, by omega⟩, bix_get' hi, rByte_eq _ _ (moreN_lt _ h) (UInt8.toNat_lt _)]
   simp only [Option.bind_some]
   rw [i64w (by omega) (by omega), List.take_add_one, List.getElem?_eq_getElem hi]
   simp only [Option.toList_some]
   rw [moreN_snoc]; rfl
  ·unfold mewsref14.More.body0
   simp only
   rw [if_neg (by omega), List.take_length]
 rw [this]
 rfl

theorem cSeal_eq (s : List UInt8) (hs : s.length ≤ 1000000000) : crc.Seal s = some (sealN s) := by
 unfold crc.Seal crc.Of
 have hm := moreN_lt s (n := 4294967295) (by omega)
 have : crc.Of.loop0 [s] ⟨4294967295, 0⟩ = some ((moreN 4294967295 s : Nat) : Int) := by
  unfold crc.Of.loop0
  refine whileO_knownE _ (fun i => (⟨((if i = 0 then 4294967295 else moreN 4294967295 s : Nat) : Int), (i : Int)⟩ : crc.Of.S0)) 1 (fun i hi => ?_) ?_ rfl
  ·obtain rfl : i = 0 := by omega
   unfold crc.Of.body0
   simp only
   rw [if_pos (by simp), need_eq ⟨by omega, by simp⟩]
   have := cMore_eq 4294967295 s (by omega) hs
   rw [show ix [s] ((0 : Nat) : Int) = s from rfl]
   simp only [if_true]
   rw [this]
   rfl
  ·unfold crc.Of.body0
   simp
 rw [this]
 simp only [Option.bind_some]
 have hx : Go.bits .xor .u32 (if IntKind.signed .u32 then -1 else IntKind.max .u32) ((moreN 4294967295 s : Nat) : Int) = ((ofN s : Nat) : Int) := by
  have e : (if IntKind.signed .u32 then -1 else IntKind.max .u32) = ((4294967295 : Nat) : Int) := rfl
  rw [e, u32_xor _ _ (by omega) hm, Nat.xor_comm]; rfl
 rw [hx]
 have e8 : ((ofN s : Nat) : Int) / 2 ^ min (Int.toNat 8) (IntKind.bits .u32) = ((ofN s / 256 : Nat) : Int) := by
  have : ((2 : Int) ^ min (Int.toNat 8) (IntKind.bits .u32)) = 256 := rfl
  rw [this]; omega
 have e16 : ((ofN s : Nat) : Int) / 2 ^ min (Int.toNat 16) (IntKind.bits .u32) = ((ofN s / 65536 : Nat) : Int) := by
  have : ((2 : Int) ^ min (Int.toNat 16) (IntKind.bits .u32)) = 65536 := rfl
  rw [this]; omega
 have e24 : ((ofN s : Nat) : Int) / 2 ^ min (Int.toNat 24) (IntKind.bits .u32) = ((ofN s / 16777216 : Nat) : Int) := by
  have : ((2 : Int) ^ min (Int.toNat 24) (IntKind.bits .u32)) = 16777216 := rfl
  rw [this]; omega
 rw [e8, e16, e24, need_eq (u8_wrap_ok _), need_eq (u8_wrap_ok _), need_eq (u8_wrap_ok _), need_eq (u8_wrap_ok _), u8_wrap, u8_wrap, u8_wrap, u8_wrap, need_eq (by simp; omega)]
 rfl

theorem rSeal_eq (s : List UInt8) (hs : s.length ≤ 1000000000) : mewsref14.Seal s = some (sealN s) := by
 unfold mewsref14.Seal mewsref14.Of
 have hm := moreN_lt s (n := 4294967295) (by omega)
 rw [show (4294967295 : Int) = ((4294967295 : Nat) : Int) from rfl, rMore_eq 4294967295 s (by omega) hs]
 simp only [Option.bind_some]
 rw [u32_xor _ _ hm (by omega)]
 have hof := ofN_lt s
 rw [show moreN 4294967295 s ^^^ 4294967295 = ofN s from rfl]
 have e8 : IntKind.wrap .u32 (((ofN s : Nat) : Int).tdiv 256) = ((ofN s / 256 : Nat) : Int) := u32w (by show (0 : Int) ≤ ((ofN s / 256 : Nat) : Int); omega) (by show ((ofN s / 256 : Nat) : Int) < _; omega)
 have e16 : IntKind.wrap .u32 (((ofN s : Nat) : Int).tdiv 65536) = ((ofN s / 65536 : Nat) : Int) := u32w (by show (0 : Int) ≤ ((ofN s / 65536 : Nat) : Int); omega) (by show ((ofN s / 65536 : Nat) : Int) < _; omega)
 have e24 : IntKind.wrap .u32 (((ofN s : Nat) : Int).tdiv 16777216) = ((ofN s / 16777216 : Nat) : Int) := u32w (by show (0 : Int) ≤ ((ofN s / 16777216 : Nat) : Int); omega) (by show ((ofN s / 16777216 : Nat) : Int) < _; omega)
 rw [e8, e16, e24, need_eq (u8_wrap_ok _), need_eq (u8_wrap_ok _), need_eq (u8_wrap_ok _), need_eq (u8_wrap_ok _), u8_wrap, u8_wrap, u8_wrap, u8_wrap, need_eq (by simp; omega)]
 rfl

theorem cFits_eq (s : List UInt8) (hs : s.length ≤ 1000000000) : crc.Fits s = some (decide (4 ≤ s.length ∧ sealN (s.take (s.length - 4)) = s)) := by
 unfold crc.Fits
 by_cases h4 : 4 ≤ s.length
 ·have e : (s.length : Int) - 4 = ((s.length - 4 : Nat) : Int) := by omega
  rw [if_pos (by omega), e, i64w (by omega) (by omega), need_eq ⟨by omega, by omega, by omega⟩, sub_zero, Int.toNat_natCast, cSeal_eq _ (by simp; omega)]
  simp [h4]
 ·rw [if_neg (by omega)]
  simp [h4]

end Go.Pu
