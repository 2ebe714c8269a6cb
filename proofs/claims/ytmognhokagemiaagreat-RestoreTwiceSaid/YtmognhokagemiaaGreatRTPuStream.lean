import Derived.Test.YtmognhokagemiaaGreatRTPuParse3
set_option maxRecDepth 100000
namespace Go.Pu
open Go.Lift

def OutB (out : List api.Request) : Prop := ∀ r ∈ out, r.Args.length ≤ 100000000

theorem stepP_out {p : parse.parser} (h : PInv p) (ho : OutB p.out) : OutB (stepP p).2.out := by
 have hstop : (stepP p).1 = false → OutB (stepP p).2.out := fun hs => by
  rcases stepP_stop hs with h | ⟨e, h⟩ <;> rw [h] <;> exact ho
 cases hs : (stepP p).1 with
 | false => exact hstop hs
 | true =>
  unfold stepP at hs ⊢
  by_cases h1 : p.in_.Body = true
  ·rw [if_pos h1] at hs ⊢
   cases hc : crlfM (p.s.drop (needN p)) with
   | more => rw [hc] at hs; cases hs
   | dead => rw [hc] at hs; cases hs
   | ok =>
    have hk := crlf_len hc
    have ha := h.args
    simp only
    unfold bodyP
    by_cases hz : p.in_.Left - 1 = 0
    ·rw [if_pos hz]
     intro r hr
     rcases List.mem_append.1 hr with hr | hr
     ·exact ho r hr
     ·rw [List.mem_singleton] at hr; subst hr; simp; omega
    ·rw [if_neg hz]; exact ho
  ·rw [if_neg h1] at hs ⊢
   by_cases h2 : 0 < p.in_.Left
   ·rw [if_pos h2] at hs ⊢
    cases hc : hdrM p.s 36 p.l.Bulk.toNat 6 with
    | more => exact ho
    | dead e => exact ho
    | ok n k => exact ho
   ·rw [if_neg h2] at hs ⊢
    cases hp : p.s with
    | nil => exact ho
    | cons c t =>
     rw [hp] at hs
     simp only at hs ⊢
     rw [← hp] at hs ⊢
     by_cases h3 : c = 42
     ·rw [if_pos h3] at hs ⊢
      cases hc : hdrM p.s 42 p.l.Args.toNat 7 with
      | more => exact ho
      | dead e => exact ho
      | ok n k =>
       simp only
       unfold manyHP
       split <;> exact ho
     ·rw [if_neg h3] at hs ⊢
      cases hc : lineM p.s p.l with
      | more => exact ho
      | dead e => exact ho
      | ok args n =>
       have := (lineM_ok hc).2.2
       have hl := h.lim.a
       show OutB (if args ≠ [] then p.out ++ [({ Args := args, Size := (pastP p (n + 1)).in_.Size } : api.Request)] else p.out)
       by_cases hne : args ≠ []
       ·rw [if_pos hne]
        intro r hr
        rcases List.mem_append.1 hr with hr | hr
        ·exact ho r hr
        ·rw [List.mem_singleton] at hr; subst hr; simp only; omega
       ·rw [if_neg hne]; exact ho

theorem runP_out {p : parse.parser} (h : PInv p) (ho : OutB p.out) : OutB (runP p).out := by
 refine runP_ind (motive := fun p => OutB p.out → OutB (runP p).out) (fun p hp hs ho => ?_) (fun p hp hs ih ho => ?_) p h ho
 ·rw [runP_stop hs]; exact stepP_out hp ho
 ·rw [runP_next hp hs]; exact ih (stepP_out hp ho)

/-! ### How much there is -/
def lenS : List (List UInt8) → Nat
 | [] => 0
 | s :: l => s.length + lenS l
theorem lenS_append (a b : List (List UInt8)) : lenS (a ++ b) = lenS a + lenS b := by
 induction a with
 | nil => simp [lenS]
 | cons x a ih => simp [lenS, ih]; omega

end Go.Pu

set_option maxRecDepth 100000
namespace Go.Pu
open Go.Lift

/-! ### A decimal as a header -/
theorem hdr_digits {most : Nat} {over : Int} (rest : List UInt8) : ∀ (b a : List UInt8), (∀ c ∈ a ++ b, isDig c) → ((a ++ b).length = 1 ∨ (a ++ b).head? ≠ some 48) → 1 ≤ (a ++ b).length → dval a ≤ most →
  hdrGo most over (b ++ 13 :: 10 :: rest) (a.length + 1) (dval a) = if dval (a ++ b) ≤ most then .ok (dval (a ++ b)) (a.length + b.length + 3) else .dead over
 | [], a, hd, hc, hl, hv => by
  rw [List.append_nil] at hl hc ⊢
  rw [List.nil_append, hdrGo, if_pos ⟨rfl, by omega⟩, if_pos hv]
  simp [crEnd]
 | c :: b, a, hd, hc, hl, hv => by
  have hcd := hd c (by simp)
  obtain ⟨d1, d2⟩ := id hcd
  rw [List.cons_append, hdrGo, if_neg (by rintro ⟨h, _⟩; rw [h] at d1; exact absurd d1 (by decide))]
  have hn0 : ¬ (1 < a.length + 1 ∧ dval a = 0) := by
   rintro ⟨h1, h2⟩
   have hne : a ≠ [] := by intro h; rw [h] at h1; simp at h1
   have hh : a.head? ≠ some 48 := by
    rcases hc with hc | hc
    ·simp at hc; omega
    ·cases a with
     | nil => exact absurd rfl hne
     | cons x a => simpa using hc
   have := dval_pos a hne (fun x hx => hd x (by simp [hx])) hh
   omega
  rw [if_neg (by rintro (h | h); exact h hcd; exact hn0 h)]
  have hs := dval_snoc a c
  have happ : a ++ c :: b = (a ++ [c]) ++ b := by simp
  by_cases hov : most < 10 * dval a + (c.toNat - 48)
  ·rw [if_pos hov, if_neg]
   have := dval_take_le (a ++ c :: b) (a.length + 1)
   rw [happ, List.take_append_of_le_length (by simp), List.take_of_length_le (by simp), hs, ← happ] at this
   omega
  ·rw [if_neg hov, ← hs, show a.length + 1 + 1 = (a ++ [c]).length + 1 by simp]
   rw [hdr_digits rest b (a ++ [c]) (by rw [← happ]; exact hd) (by rw [← happ]; exact hc) (by rw [← happ]; exact hl) (by omega), ← happ]
   simp [Nat.add_assoc, Nat.add_comm 1]

theorem hdr_text {mark : UInt8} {most : Nat} {over : Int} (n : Nat) (rest : List UInt8) : hdrM (mark :: (dtext n ++ 13 :: 10 :: rest)) mark most over = if n ≤ most then .ok n ((dtext n).length + 3) else .dead over := by
 rw [hdrM, if_pos rfl]
 obtain ⟨h1, h2⟩ := dtext_dig n
 have hl := (dtext_len n).1
 have hc : (dtext n).length = 1 ∨ (dtext n).head? ≠ some 48 := by
  by_cases h : n < 10
  ·left; rw [dtext_small h]; rfl
  ·right; exact dtext_head (by omega)
 have := hdr_digits (most := most) (over := over) rest (dtext n) [] (by simpa using h1) (by simpa using hc) (by simpa using hl) (by simp [dval])
 simp only [List.nil_append, List.length_nil, Nat.zero_add, dval_nil] at this
 rw [this, h2]

/-! ### What is put -/
def putA (x : List UInt8) : List UInt8 := 36 :: (dtext x.length ++ 13 :: 10 :: (x ++ [13, 10]))
def putAs : List (List UInt8) → List UInt8
 | [] => []
 | x :: l => putA x ++ putAs l
def putM (args : List (List UInt8)) : List UInt8 := 42 :: (dtext args.length ++ 13 :: 10 :: putAs args)
theorem putAs_snoc (l : List (List UInt8)) (x : List UInt8) : putAs (l ++ [x]) = putAs l ++ putA x := by
 induction l with
 | nil => simp [putAs]
 | cons y l ih => simp [putAs, ih]
theorem putA_len (x : List UInt8) : (putA x).length = (dtext x.length).length + x.length + 5 := by simp [putA]; omega
theorem putAs_len (l : List (List UInt8)) (h : lenS l ≤ 5000) : (putAs l).length ≤ lenS l + 30 * l.length := by
 induction l with
 | nil => simp [putAs]
 | cons x l ih =>
  simp only [lenS] at h ⊢
  have := ih (by omega)
  have h2 := putA_len x
  have h3 := dtext_len2 4 x.length (by omega)
  simp only [putAs, List.length_append, List.length_cons]; omega
theorem putM_len (l : List (List UInt8)) (h : lenS l ≤ 5000) (hl : l.length ≤ 100) : (putM l).length ≤ 8100 := by
 have := putAs_len l h
 have h3 := dtext_len2 4 l.length (by omega)
 simp [putM]; omega

theorem rPut5_eq (args : List (List UInt8)) (h : lenS args ≤ 5000) (hl : args.length ≤ 100) : mewsref05.Put args = some (putM args) := by
 have hle : ∀ i (hi : i < args.length), args[i].length ≤ 5000 := by
  intro i hi
  have := lenS_append (args.take i) (args.drop i)
  rw [List.take_append_drop, List.drop_eq_getElem_cons hi] at this
  simp only [lenS] at this
  omega
 have hd3 := dtext_len2 4 args.length (by omega)
 unfold mewsref05.Put
 rw [rText_eq _ (by omega)]
 simp only [Option.bind_some]
 rw [need_eq (by simp; omega), need_eq (by simp; omega)]
 have hloop : mewsref05.Put.loop0 args ⟨([42] ++ dtext args.length) ++ [13, 10], 0⟩ = some (putM args) := by
  unfold mewsref05.Put.loop0
  let st : Nat → mewsref05.Put.S0 := fun i => ⟨([42] ++ dtext args.length) ++ [13, 10] ++ putAs (args.take i), (i : Int)⟩
  refine whileO_knownE _ st args.length (fun i hi => ?_) ?_ (by simp [st, putAs])
  ·have h1 := hle i hi
   have h2 := dtext_len2 4 args[i].length (by omega)
   have h3 : (putAs (args.take i)).length ≤ 8000 := by
    have := putAs_len (args.take i) (by
     have := lenS_append (args.take i) (args.drop i)
     rw [List.take_append_drop] at this; omega)
    have h4 := lenS_append (args.take i) (args.drop i)
    rw [List.take_append_drop] at h4
    have h5 : (args.take i).length ≤ 100 := by simp; omega
    omega
   unfold mewsref05.Put.body0
   simp only [st, letO]
   rw [if_pos (by omega), need_eq ⟨by omega, by omega⟩, ix_get hi, rText_eq _ (by omega)]
   simp only [Option.bind_some]
   rw [need_eq (by simp; omega), need_eq (by simp; omega), need_eq ⟨by omega, by omega⟩, need_eq (by simp; omega), need_eq (by simp; omega), need_eq (by simp; omega), i64w (by omega) (by omega)]
   rw [List.take_add_one, List.getElem?_eq_getElem hi]
   simp only [Option.toList_some]
   rw [putAs_snoc]
   simp [putA]
  ·unfold mewsref05.Put.body0
   simp only [st]
   rw [if_neg (by omega), List.take_length]
   simp [putM]
 rw [hloop]
 rfl

/-! ### It is found again -/
/-- Arguments that are left to come. -/
theorem run_args (l : api.Limits) (hl : GoodL l) (out : List api.Request) (rest : List UInt8) : ∀ (xs args : List (List UInt8)) (size : Int) (q : parse.parser), xs ≠ [] →
  q = { in_ := { emptyIn with Args := args, Left := (xs.length : Int), Size := size }, s := putAs xs ++ rest, l := l, out := out } → PInv q →
  (runP q = runP (freshP rest l (out ++ [({ Args := args ++ xs, Size := size + (putAs xs).length } : api.Request)])) ∧ PInv (freshP rest l (out ++ [({ Args := args ++ xs, Size := size + (putAs xs).length } : api.Request)])) ∧ ∀ x ∈ xs, (x.length : Int) ≤ l.Bulk) ∨
  (∃ e, (e = 5 ∨ e = 6 ∨ e = 7 ∨ e = 16) ∧ runP q = deadP (freshP rest l out) e ∧ ∃ x ∈ xs, l.Bulk < (x.length : Int))
 | [], args, size, q, h, _, _ => absurd rfl h
 | x :: xs, args, size, q, _, e, hinv => by
  obtain ⟨b1, b2⟩ := hl.b
  have hs : q.s = 36 :: (dtext x.length ++ 13 :: 10 :: (x ++ 13 :: 10 :: (putAs xs ++ rest))) := by rw [e]; simp [putAs, putA]
  have hh := hdr_text (mark := 36) (most := l.Bulk.toNat) (over := 6) x.length (x ++ 13 :: 10 :: (putAs xs ++ rest))
  rw [← hs] at hh
  have hst : stepP q = (match hdrM q.s 36 l.Bulk.toNat 6 with | .more => (false, q) | .dead e => (false, deadP q e) | .ok n k => (true, argHP q n k)) := by
   unfold stepP
   rw [if_neg (by rw [e]; simp), if_pos (by rw [e]; show (0 : Int) < ((x :: xs).length : Int); simp)]
   rw [show q.l = l by rw [e]]
   rfl
  rw [hh] at hst
  by_cases hb : x.length ≤ l.Bulk.toNat
  ·rw [if_pos hb] at hst
   simp only at hst
   have hs1 : (stepP q).1 = true := by rw [hst]
   have inv1 := (stepP_ok hinv hs1).1
   have hrun1 := runP_next hinv hs1
   rw [hst] at inv1 hrun1
   simp only at inv1 hrun1
   have hq1 : argHP q x.length ((dtext x.length).length + 3) = { in_ := { emptyIn with Args := args, Left := ((x :: xs).length : Int), Size := size + ((dtext x.length).length + 3 : Nat), Body := true, Need := (x.length : Int) }, s := x ++ 13 :: 10 :: (putAs xs ++ rest), l := l, out := out } := by
    unfold argHP pastP
    have hsd : q.s.drop ((dtext x.length).length + 3) = x ++ 13 :: 10 :: (putAs xs ++ rest) := by
     rw [hs, show (dtext x.length).length + 3 = (36 :: (dtext x.length ++ [13, 10])).length by simp]
     rw [show (36 :: (dtext x.length ++ 13 :: 10 :: (x ++ 13 :: 10 :: (putAs xs ++ rest)))) = (36 :: (dtext x.length ++ [13, 10])) ++ (x ++ 13 :: 10 :: (putAs xs ++ rest)) by simp, List.drop_left]
    rw [hsd, e]
   rw [hq1] at inv1 hrun1
   -- the body
   generalize hq1' : ({ in_ := { emptyIn with Args := args, Left := ((x :: xs).length : Int), Size := size + ((dtext x.length).length + 3 : Nat), Body := true, Need := (x.length : Int) }, s := x ++ 13 :: 10 :: (putAs xs ++ rest), l := l, out := out } : parse.parser) = q1 at inv1 hrun1
   have hn : needN q1 = x.length := by rw [← hq1']; simp [needN]
   have hs1' : q1.s = x ++ 13 :: 10 :: (putAs xs ++ rest) := by rw [← hq1']
   have hst1 : stepP q1 = (true, bodyP q1) := by
    unfold stepP
    rw [if_pos (by rw [← hq1']), hn, hs1', List.drop_left]
    rfl
   have hs2 : (stepP q1).1 = true := by rw [hst1]
   have inv2 := (stepP_ok inv1 hs2).1
   have hrun2 := runP_next inv1 hs2
   rw [hst1] at inv2 hrun2
   simp only at inv2 hrun2
   have htk : q1.s.take x.length = x := by rw [hs1', List.take_left]
   have hdr : q1.s.drop (x.length + 2) = putAs xs ++ rest := by
    rw [hs1', show x.length + 2 = (x ++ [13, 10]).length by simp, show x ++ 13 :: 10 :: (putAs xs ++ rest) = (x ++ [13, 10]) ++ (putAs xs ++ rest) by simp, List.drop_left]
   have hsz : size + ((dtext x.length).length + 3 : Nat) + ((x.length + 2 : Nat) : Int) = size + ((putA x).length : Int) := by rw [putA_len]; omega
   cases xs with
   | nil =>
    have hbp : bodyP q1 = freshP rest l (out ++ [({ Args := args ++ [x], Size := size + (putAs [x]).length } : api.Request)]) := by
     unfold bodyP
     rw [hn, htk, hdr]
     rw [← hq1']
     rw [if_pos (by simp)]
     simp only [hsz, putAs, List.append_nil, List.nil_append]
     rfl
    rw [hbp] at inv2 hrun2
    exact .inl ⟨hrun1.trans hrun2, inv2, fun y hy => by rw [List.mem_singleton] at hy; subst hy; omega⟩
   | cons y ys =>
    have hbp : bodyP q1 = { in_ := { emptyIn with Args := args ++ [x], Left := ((y :: ys).length : Int), Size := size + ((putA x).length : Int) }, s := putAs (y :: ys) ++ rest, l := l, out := out } := by
     unfold bodyP
     rw [hn, htk, hdr]
     rw [← hq1']
     rw [if_neg (by simp; omega)]
     simp only [hsz]
     congr 2
     simp
    rw [hbp] at inv2 hrun2
    have ih := run_args l hl out rest (y :: ys) (args ++ [x]) (size + ((putA x).length : Int)) _ (by simp) rfl inv2
    have ea : args ++ [x] ++ (y :: ys) = args ++ x :: y :: ys := by simp
    have es : size + ((putA x).length : Int) + ((putAs (y :: ys)).length : Int) = size + ((putAs (x :: y :: ys)).length : Int) := by
     rw [show putAs (x :: y :: ys) = putA x ++ putAs (y :: ys) from rfl, List.length_append]; omega
    rw [ea, es] at ih
    rcases ih with ⟨h1, h2, h3⟩ | ⟨e', h1, h2, y', hy1, hy2⟩
    ·exact .inl ⟨(hrun1.trans hrun2).trans h1, h2, fun z hz => (List.mem_cons.1 hz).elim (fun e => by subst e; omega) (h3 z)⟩
    ·exact .inr ⟨e', h1, (hrun1.trans hrun2).trans h2, y', List.mem_cons_of_mem _ hy1, hy2⟩
  ·rw [if_neg hb] at hst
   simp only at hst
   refine .inr ⟨6, by omega, ?_, x, by simp, by omega⟩
   rw [runP_stop (by rw [hst]), hst, e]
   rfl

/-- A request that was put. -/
theorem run_putB (l : api.Limits) (hl : GoodL l) (out : List api.Request) (rest : List UInt8) (args : List (List UInt8)) (hinv : PInv (freshP (putM args ++ rest) l out)) :
  ((args.length : Int) ≤ l.Args ∧ runP (freshP (putM args ++ rest) l out) = runP (freshP rest l (if args = [] then out else out ++ [({ Args := args, Size := ((putM args).length : Int) } : api.Request)])) ∧ PInv (freshP rest l (if args = [] then out else out ++ [({ Args := args, Size := ((putM args).length : Int) } : api.Request)])) ∧ ∀ x ∈ args, (x.length : Int) ≤ l.Bulk) ∨
  (∃ e, (e = 5 ∨ e = 6 ∨ e = 7 ∨ e = 16) ∧ runP (freshP (putM args ++ rest) l out) = deadP (freshP rest l out) e ∧ (l.Args < (args.length : Int) ∨ ∃ x ∈ args, l.Bulk < (x.length : Int))) := by
 obtain ⟨a1, a2⟩ := hl.a
 have hs : putM args ++ rest = 42 :: (dtext args.length ++ 13 :: 10 :: (putAs args ++ rest)) := by simp [putM]
 have hh := hdr_text (mark := 42) (most := l.Args.toNat) (over := 7) args.length (putAs args ++ rest)
 have hst : stepP (freshP (putM args ++ rest) l out) = (match hdrM (putM args ++ rest) 42 l.Args.toNat 7 with | .more => (false, freshP (putM args ++ rest) l out) | .dead e => (false, deadP (freshP (putM args ++ rest) l out) e) | .ok n k => (true, manyHP (freshP (putM args ++ rest) l out) n k)) := by
  unfold stepP
  rw [if_neg (by simp [freshP]), if_neg (by show ¬ (0 : Int) < 0; omega)]
  have hss : (freshP (putM args ++ rest) l out).s = putM args ++ rest := rfl
  rw [hss, hs]
  rfl
 rw [hs, hh, ← hs] at hst
 by_cases hb : args.length ≤ l.Args.toNat
 ·rw [if_pos hb] at hst
  simp only at hst
  have hs1 : (stepP (freshP (putM args ++ rest) l out)).1 = true := by rw [hst]
  have inv1 := (stepP_ok hinv hs1).1
  have hrun1 := runP_next hinv hs1
  rw [hst] at inv1 hrun1
  simp only at inv1 hrun1
  have hsd : (putM args ++ rest).drop ((dtext args.length).length + 3) = putAs args ++ rest := by
   rw [hs, show (dtext args.length).length + 3 = (42 :: (dtext args.length ++ [13, 10])).length by simp]
   rw [show (42 :: (dtext args.length ++ 13 :: 10 :: (putAs args ++ rest))) = (42 :: (dtext args.length ++ [13, 10])) ++ (putAs args ++ rest) by simp, List.drop_left]
  cases args with
  | nil =>
   have e1 : manyHP (freshP (putM [] ++ rest) l out) 0 ((dtext 0).length + 3) = freshP rest l out := by
    unfold manyHP wholeP pastP
    rw [if_pos rfl]
    show ({ in_ := emptyIn, s := (putM [] ++ rest).drop _, l := l, out := out } : parse.parser) = _
    have := hsd
    simp only [List.length_nil, putAs, List.nil_append] at this
    rw [this]; rfl
   simp only [List.length_nil] at inv1 hrun1
   rw [e1] at inv1 hrun1
   exact .inl ⟨by simp; omega, hrun1, inv1, fun x hx => by cases hx⟩
  | cons x xs =>
   have e1 : manyHP (freshP (putM (x :: xs) ++ rest) l out) (x :: xs).length ((dtext (x :: xs).length).length + 3) = { in_ := { emptyIn with Args := [], Left := ((x :: xs).length : Int), Size := ((dtext (x :: xs).length).length + 3 : Nat) }, s := putAs (x :: xs) ++ rest, l := l, out := out } := by
    unfold manyHP pastP
    rw [if_neg (by simp)]
    show ({ in_ := { emptyIn with Left := ((x :: xs).length : Int), Size := (0 : Int) + _ }, s := (putM (x :: xs) ++ rest).drop _, l := l, out := out } : parse.parser) = _
    rw [hsd, Int.zero_add]
   rw [e1] at inv1 hrun1
   have := run_args l hl out rest (x :: xs) [] _ _ (by simp) rfl inv1
   have es : (((dtext (x :: xs).length).length + 3 : Nat) : Int) + ((putAs (x :: xs)).length : Int) = ((putM (x :: xs)).length : Int) := by simp [putM]; omega
   rw [es, List.nil_append] at this
   rcases this with ⟨h1, h2, h2b⟩ | ⟨e, h1, h2, h3⟩
   ·exact .inl ⟨by omega, hrun1.trans h1, h2, h2b⟩
   ·exact .inr ⟨e, h1, hrun1.trans h2, .inr h3⟩
 ·rw [if_neg hb] at hst
  simp only at hst
  refine .inr ⟨7, by omega, ?_, .inl (by omega)⟩
  rw [runP_stop (by rw [hst]), hst]
  rfl

/-- A request that was put. -/
theorem run_put (l : api.Limits) (hl : GoodL l) (out : List api.Request) (rest : List UInt8) (args : List (List UInt8)) (hinv : PInv (freshP (putM args ++ rest) l out)) :
  ((args.length : Int) ≤ l.Args ∧ runP (freshP (putM args ++ rest) l out) = runP (freshP rest l (if args = [] then out else out ++ [({ Args := args, Size := ((putM args).length : Int) } : api.Request)])) ∧ PInv (freshP rest l (if args = [] then out else out ++ [({ Args := args, Size := ((putM args).length : Int) } : api.Request)]))) ∨
  (∃ e, (e = 5 ∨ e = 6 ∨ e = 7 ∨ e = 16) ∧ runP (freshP (putM args ++ rest) l out) = deadP (freshP rest l out) e ∧ (l.Args < (args.length : Int) ∨ ∃ x ∈ args, l.Bulk < (x.length : Int))) := by
 rcases run_putB l hl out rest args hinv with ⟨h1, h2, h3, _⟩ | h
 ·exact .inl ⟨h1, h2, h3⟩
 ·exact .inr h

end Go.Pu
