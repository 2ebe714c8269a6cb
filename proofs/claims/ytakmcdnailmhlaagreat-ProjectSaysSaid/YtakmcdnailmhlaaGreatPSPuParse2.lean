import Derived.Test.YtakmcdnailmhlaaGreatPSPuParse1
set_option maxRecDepth 100000
namespace Go.Pu
open Go.Lift

inductive BR where
 | more
 | dead
 | ok
 deriving DecidableEq
def crlfM : List UInt8 → BR
 | [] => .more
 | c :: t => if c = 13 then (match t with | [] => .more | d :: _ => if d = 10 then .ok else .dead) else .dead

theorem crlf_ok {t : List UInt8} (h : crlfM t = .ok) : ∃ u, t = 13 :: 10 :: u := by
 match t, h with
 | [c], h => simp only [crlfM] at h; split at h <;> cases h
 | c :: d :: u, h =>
  simp only [crlfM] at h
  by_cases hc : c = 13
  ·rw [if_pos hc] at h
   by_cases hd : d = 10
   ·exact ⟨u, by rw [hc, hd]⟩
   ·rw [if_neg hd] at h; cases h
  ·rw [if_neg hc] at h; cases h

/-! ### A step -/
def needN (p : parse.parser) : Nat := p.in_.Need.toNat
def bodyP (p : parse.parser) : parse.parser :=
 if p.in_.Left - 1 = 0 then
  { in_ := emptyIn, s := p.s.drop (needN p + 2), l := p.l, out := p.out ++ [({ Args := p.in_.Args ++ [p.s.take (needN p)], Size := p.in_.Size + (needN p + 2 : Nat) } : api.Request)] }
 else
  { p with in_ := { p.in_ with Args := p.in_.Args ++ [p.s.take (needN p)], Left := p.in_.Left - 1, Size := p.in_.Size + (needN p + 2 : Nat), Body := false, Need := 0 }, s := p.s.drop (needN p + 2) }
def argHP (p : parse.parser) (n k : Nat) : parse.parser := { pastP p k with in_ := { (pastP p k).in_ with Body := true, Need := n } }
def manyHP (p : parse.parser) (n k : Nat) : parse.parser := if n = 0 then wholeP [] (pastP p k) else { pastP p k with in_ := { (pastP p k).in_ with Left := n } }

def stepP (p : parse.parser) : Bool × parse.parser :=
 if p.in_.Body = true then
  match crlfM (p.s.drop (needN p)) with
  | .more => (false, p)
  | .dead => (false, deadP p 5)
  | .ok => (true, bodyP p)
 else if 0 < p.in_.Left then
  match hdrM p.s 36 p.l.Bulk.toNat 6 with
  | .more => (false, p)
  | .dead e => (false, deadP p e)
  | .ok n k => (true, argHP p n k)
 else match p.s with
  | [] => (false, p)
  | c :: _ => if c = 42 then
    match hdrM p.s 42 p.l.Args.toNat 7 with
    | .more => (false, p)
    | .dead e => (false, deadP p e)
    | .ok n k => (true, manyHP p n k)
   else lineP (lineM p.s p.l) p

structure PInv (p : parse.parser) : Prop where
 lim : GoodL p.l
 size : 0 ≤ p.in_.Size ∧ p.in_.Size + p.s.length ≤ 100000000
 out : p.out.length + p.s.length ≤ 100000000
 args : p.in_.Args.length + p.s.length ≤ 100000000
 need : 0 ≤ p.in_.Need ∧ p.in_.Need ≤ 1048576
 left : 0 ≤ p.in_.Left ∧ p.in_.Left ≤ 65536
 body : p.in_.Body = true → 0 < p.in_.Left

theorem crlf_len {s : List UInt8} {n : Nat} (h : crlfM (s.drop n) = .ok) : n + 2 ≤ s.length := by
 obtain ⟨u, hu⟩ := crlf_ok h
 have := congrArg List.length hu
 simp at this; omega

/-- A step that is one goes on, and keeps all in order. -/
theorem stepP_ok {p : parse.parser} (h : PInv p) (hs : (stepP p).1 = true) : PInv (stepP p).2 ∧ (stepP p).2.s.length < p.s.length ∧ (stepP p).2.l = p.l := by
 obtain ⟨hl, ⟨z1, z2⟩, ho, ha, ⟨n1, n2⟩, ⟨l1, l2⟩, hb⟩ := h
 obtain ⟨a1, a2⟩ := hl.a
 obtain ⟨b1, b2⟩ := hl.b
 unfold stepP at hs ⊢
 by_cases h1 : p.in_.Body = true
 ·rw [if_pos h1] at hs ⊢
  cases hc : crlfM (p.s.drop (needN p)) with
  | more => rw [hc] at hs; cases hs
  | dead => rw [hc] at hs; cases hs
  | ok =>
   have hk := crlf_len hc
   have hb := hb h1
   simp only
   unfold bodyP
   by_cases hz : p.in_.Left - 1 = 0
   ·rw [if_pos hz]
    refine ⟨⟨hl, ⟨by show (0 : Int) ≤ 0; omega, ?_⟩, ?_, ?_, ⟨by show (0 : Int) ≤ 0; omega, by show (0 : Int) ≤ _; omega⟩, ⟨by show (0 : Int) ≤ 0; omega, by show (0 : Int) ≤ _; omega⟩, fun h => by cases h⟩, ?_, rfl⟩
    ·show (0 : Int) + _ ≤ _; simp; omega
    ·simp; omega
    ·simp; omega
    ·simp; omega
   ·rw [if_neg hz]
    refine ⟨⟨hl, ⟨?_, ?_⟩, ?_, ?_, ⟨by show (0 : Int) ≤ 0; omega, by show (0 : Int) ≤ _; omega⟩, ⟨?_, ?_⟩, fun h => by cases h⟩, ?_, rfl⟩
    ·show 0 ≤ p.in_.Size + (needN p + 2 : Nat); omega
    ·show p.in_.Size + (needN p + 2 : Nat) + _ ≤ _; simp; omega
    ·simp; omega
    ·simp; omega
    ·show 0 ≤ p.in_.Left - 1; omega
    ·show p.in_.Left - 1 ≤ _; omega
    ·simp; omega
 ·rw [if_neg h1] at hs ⊢
  by_cases h2 : 0 < p.in_.Left
  ·rw [if_pos h2] at hs ⊢
   cases hc : hdrM p.s 36 p.l.Bulk.toNat 6 with
   | more => rw [hc] at hs; cases hs
   | dead e => rw [hc] at hs; cases hs
   | ok n k =>
    obtain ⟨k1, k2, k3⟩ := hdrM_ok hc
    simp only
    refine ⟨⟨hl, ⟨?_, ?_⟩, ?_, ?_, ⟨?_, ?_⟩, ⟨l1, l2⟩, fun _ => h2⟩, ?_, rfl⟩
    ·show 0 ≤ p.in_.Size + (k : Int); omega
    ·show p.in_.Size + (k : Int) + ((p.s.drop k).length : Int) ≤ _; simp; omega
    ·show p.out.length + (p.s.drop k).length ≤ _; simp; omega
    ·show p.in_.Args.length + (p.s.drop k).length ≤ _; simp; omega
    ·show (0 : Int) ≤ (n : Int); omega
    ·show (n : Int) ≤ _; omega
    ·show (p.s.drop k).length < _; simp; omega
  ·rw [if_neg h2] at hs ⊢
   cases hp : p.s with
   | nil => rw [hp] at hs; cases hs
   | cons c t =>
    rw [hp] at hs
    simp only at hs ⊢
    rw [← hp] at hs ⊢
    by_cases h3 : c = 42
    ·rw [if_pos h3] at hs ⊢
     cases hc : hdrM p.s 42 p.l.Args.toNat 7 with
     | more => rw [hc] at hs; cases hs
     | dead e => rw [hc] at hs; cases hs
     | ok n k =>
      obtain ⟨k1, k2, k3⟩ := hdrM_ok hc
      simp only
      unfold manyHP
      by_cases hn : n = 0
      ·rw [if_pos hn]
       refine ⟨⟨hl, ⟨by show (0 : Int) ≤ 0; omega, ?_⟩, ?_, ?_, ⟨by show (0 : Int) ≤ 0; omega, by show (0 : Int) ≤ _; omega⟩, ⟨by show (0 : Int) ≤ 0; omega, by show (0 : Int) ≤ _; omega⟩, fun h => by cases h⟩, ?_, rfl⟩
       ·show (0 : Int) + ((p.s.drop k).length : Int) ≤ _; simp; omega
       ·show p.out.length + (p.s.drop k).length ≤ _; simp; omega
       ·show 0 + (p.s.drop k).length ≤ _; simp; omega
       ·show (p.s.drop k).length < _; simp; omega
      ·rw [if_neg hn]
       refine ⟨⟨hl, ⟨?_, ?_⟩, ?_, ?_, ⟨n1, n2⟩, ⟨?_, ?_⟩, fun h => absurd h h1⟩, ?_, rfl⟩
       ·show 0 ≤ p.in_.Size + (k : Int); omega
       ·show p.in_.Size + (k : Int) + ((p.s.drop k).length : Int) ≤ _; simp; omega
       ·show p.out.length + (p.s.drop k).length ≤ _; simp; omega
       ·show p.in_.Args.length + (p.s.drop k).length ≤ _; simp; omega
       ·show (0 : Int) ≤ (n : Int); omega
       ·show (n : Int) ≤ _; omega
       ·show (p.s.drop k).length < _; simp; omega
    ·rw [if_neg h3] at hs ⊢
     cases hc : lineM p.s p.l with
     | more => rw [hc] at hs; cases hs
     | dead e => rw [hc] at hs; cases hs
     | ok args n =>
      obtain ⟨k1, k2, k3⟩ := lineM_ok hc
      refine ⟨⟨hl, ⟨by show (0 : Int) ≤ 0; omega, ?_⟩, ?_, ?_, ⟨by show (0 : Int) ≤ 0; omega, by show (0 : Int) ≤ _; omega⟩, ⟨by show (0 : Int) ≤ 0; omega, by show (0 : Int) ≤ _; omega⟩, fun h => by cases h⟩, ?_, rfl⟩
      ·show (0 : Int) + ((p.s.drop (n + 1)).length : Int) ≤ _; simp; omega
      ·show (if args ≠ [] then p.out ++ [_] else p.out).length + (p.s.drop (n + 1)).length ≤ _
       split <;> simp <;> omega
      ·show 0 + (p.s.drop (n + 1)).length ≤ _; simp; omega
      ·show (p.s.drop (n + 1)).length < _; simp; omega

/-! ### parse.step is the step -/
theorem body_loop (p : parse.parser) (hs : p.s.length ≤ 100000000) (hn : 0 ≤ p.in_.Need ∧ p.in_.Need ≤ 1048576) :
  parse.parser.body.loop0 p ⟨0⟩ = some (match crlfM (p.s.drop (needN p)) with | .more => .inr (false, p) | .dead => .inr (false, deadP p 5) | .ok => .inl ()) := by
 have hneed : (if p.in_.Need < 0 then 0 else p.in_.Need) = (needN p : Int) := by
  unfold needN; rw [if_neg (by omega)]; omega
 have hb : ∀ i : Nat, needN p + i < p.s.length → bix p.s ((needN p : Int) + (i : Int)) = ((p.s.drop (needN p)).getD i 0).toNat := by
  intro i hi
  rw [show (needN p : Int) + (i : Int) = ((needN p + i : Nat) : Int) by omega, bix_get' hi]
  rw [List.getD_eq_getElem?_getD, List.getElem?_drop, List.getElem?_eq_getElem hi]; rfl
 have hlen : (p.s.drop (needN p)).length = p.s.length - needN p := by simp
 have e13 : bix ([13, 10] : List UInt8) 0 = 13 := rfl
 have e10 : bix ([13, 10] : List UInt8) 1 = 10 := rfl
 have e2 : ([13, 10] : List UInt8).length = 2 := rfl
 have hnn : needN p ≤ 1048576 := by unfold needN; omega
 have hb0 := hb 0
 have hb1 := hb 1
 have step0 : ∀ {c : UInt8} {t : List UInt8}, p.s.drop (needN p) = c :: t → parse.parser.body.body0 p ⟨0⟩ = if c = 13 then some (.inl ⟨1⟩) else some (.inr (.inr (false, deadP p 5))) := by
  intro c t e
  rw [e] at hlen hb0
  simp only [List.length_cons] at hlen
  unfold parse.parser.body.body0
  simp only
  rw [if_pos (by omega), hneed, i64w (n := (p.s.length : Int) - _) (by omega) (by omega), if_neg (by omega), i64w (n := (needN p : Int) + 0) (by omega) (by omega), need_eq ⟨by omega, by omega⟩, need_eq ⟨by omega, by decide⟩, e13]
  have := hb0 (by omega)
  rw [show ((0 : Nat) : Int) = 0 from rfl] at this
  rw [this]
  simp only [List.getD_cons_zero]
  by_cases hc : c = 13
  ·rw [if_pos (by rw [hc]; rfl), if_pos hc]; rfl
  ·rw [if_neg (show ¬ (c.toNat : Int) = 13 from fun e => hc ((toNat_eq_iff c 13).1 e)), if_neg hc, dies_eq]; rfl
 unfold parse.parser.body.loop0
 cases e : p.s.drop (needN p) with
 | nil =>
  rw [e] at hlen
  simp only [List.length_nil] at hlen
  apply whileO_end
  unfold parse.parser.body.body0
  simp only
  rw [if_pos (by omega), hneed, i64w (by omega) (by omega), if_pos (by omega)]
  rfl
 | cons c t =>
  have h0 := step0 e
  simp only [crlfM]
  by_cases hc : c = 13
  ·rw [if_pos hc] at h0 ⊢
   refine whileO_next h0 ?_
   rw [e] at hlen hb1
   simp only [List.length_cons] at hlen
   cases t with
   | nil =>
    simp only [List.length_nil] at hlen
    apply whileO_end
    unfold parse.parser.body.body0
    simp only
    rw [if_pos (by omega), hneed, i64w (by omega) (by omega), if_pos (by omega)]
   | cons d t =>
    simp only [List.length_cons] at hlen
    have hd := hb1 (by omega)
    rw [show ((1 : Nat) : Int) = 1 from rfl] at hd
    simp only [List.getD_cons_succ, List.getD_cons_zero] at hd
    have h1 : parse.parser.body.body0 p ⟨1⟩ = if d = 10 then some (.inl ⟨2⟩) else some (.inr (.inr (false, deadP p 5))) := by
     unfold parse.parser.body.body0
     simp only
     rw [if_pos (by omega), hneed, i64w (n := (p.s.length : Int) - _) (by omega) (by omega), if_neg (by omega), i64w (n := (needN p : Int) + 1) (by omega) (by omega), need_eq ⟨by omega, by omega⟩, need_eq ⟨by omega, by decide⟩, e10, hd]
     by_cases hc : d = 10
     ·rw [if_pos (by rw [hc]; rfl), if_pos hc]; rfl
     ·rw [if_neg (show ¬ (d.toNat : Int) = 10 from fun e => hc ((toNat_eq_iff d 10).1 e)), if_neg hc, dies_eq]; rfl
    simp only
    by_cases hd10 : d = 10
    ·rw [if_pos hd10] at h1 ⊢
     refine whileO_next h1 (whileO_end ?_)
     unfold parse.parser.body.body0
     simp only
     rw [if_neg (by omega)]
    ·rw [if_neg hd10] at h1 ⊢
     exact whileO_end h1
  ·rw [if_neg hc] at h0 ⊢
   exact whileO_end h0

theorem body_eq (p : parse.parser) (h : PInv p) (hb : p.in_.Body = true) : parse.parser.body p = some (match crlfM (p.s.drop (needN p)) with | .more => (false, p) | .dead => (false, deadP p 5) | .ok => (true, bodyP p)) := by
 obtain ⟨hl, ⟨z1, z2⟩, ho, ha, ⟨n1, n2⟩, ⟨l1, l2⟩, hbl⟩ := h
 have hneed : (if p.in_.Need < 0 then 0 else p.in_.Need) = (needN p : Int) := by
  unfold needN; rw [if_neg (by omega)]; omega
 have hnn : needN p ≤ 1048576 := by unfold needN; omega
 have hbl := hbl hb
 unfold parse.parser.body
 rw [body_loop p (by omega) ⟨n1, n2⟩]
 simp only [Option.bind_some]
 cases hc : crlfM (p.s.drop (needN p)) with
 | more => rfl
 | dead => rfl
 | ok =>
  have hk := crlf_len hc
  simp only [onSum]
  rw [hneed, need_eq ⟨by omega, by omega, by omega⟩, sub_zero, Int.toNat_natCast]
  unfold strings.Clone stringslite.Clone
  rw [need_eq (by simp; omega)]
  simp only [Option.bind_some]
  rw [need_eq (by simp only [List.length_singleton]; omega), i64w (n := (needN p : Int) + 2) (by omega) (by omega), i64w (n := p.in_.Left - 1) (by omega) (by omega), show (needN p : Int) + 2 = ((needN p + 2 : Nat) : Int) by omega]
  rw [past_eq (needN p + 2) { p with in_ := ({ Rest := p.in_.Rest, Args := p.in_.Args ++ [p.s.take (needN p)], Left := p.in_.Left - 1, Size := p.in_.Size, Body := false, Need := 0, Dead := p.in_.Dead } : api.Input) } hk z1 (by show p.in_.Size + (p.s.length : Int) ≤ _; omega)]
  simp only [Option.bind_some, pastP]
  unfold bodyP
  by_cases hz : p.in_.Left - 1 = 0
  ·rw [if_pos hz, if_pos hz, whole_eq _ _ (by show p.out.length ≤ _; omega)]
   simp only [Option.bind_some, wholeP]
   rw [if_pos (by simp)]
  ·rw [if_neg hz, if_neg hz]
   rfl

theorem step_eq (p : parse.parser) (h : PInv p) : parse.parser.step p = some (stepP p) := by
 obtain ⟨hl, ⟨z1, z2⟩, ho, ha, ⟨n1, n2⟩, ⟨l1, l2⟩, hbl⟩ := id h
 obtain ⟨a1, a2⟩ := hl.a
 obtain ⟨b1, b2⟩ := hl.b
 unfold parse.parser.step stepP
 by_cases h1 : p.in_.Body = true
 ·rw [if_pos h1, if_pos h1, body_eq p h h1]
  rfl
 ·rw [if_neg h1, if_neg h1]
  by_cases h2 : 0 < p.in_.Left
  ·rw [if_pos h2, if_pos h2]
   have := header_eq p 36 p.l.Bulk.toNat 6 (by omega) (by omega) z1 (by omega)
   rw [show ((36 : UInt8).toNat : Int) = 36 from rfl, show (p.l.Bulk.toNat : Int) = p.l.Bulk by omega] at this
   rw [this]
   cases hdrM p.s 36 p.l.Bulk.toNat 6 <;> rfl
  ·rw [if_neg h2, if_neg h2]
   cases hp : p.s with
   | nil => rfl
   | cons c t =>
    simp only
    rw [← hp]
    have hb : bix p.s 0 = (c.toNat : Int) := by
     rw [hp]; simpa using bix_app [] t c
    have hlp : p.s.length = t.length + 1 := by rw [hp]; simp
    rw [if_neg (by rw [hp]; simp), need_eq ⟨by omega, by omega⟩, hb]
    by_cases h3 : c = 42
    ·rw [if_pos (by rw [h3]; rfl), if_pos h3]
     have := header_eq p 42 p.l.Args.toNat 7 (by omega) (by omega) z1 (by omega)
     rw [show ((42 : UInt8).toNat : Int) = 42 from rfl, show (p.l.Args.toNat : Int) = p.l.Args by omega] at this
     rw [this]
     cases hdrM p.s 42 p.l.Args.toNat 7 with
     | more => rfl
     | dead e => rfl
     | ok n k =>
      simp only [Option.bind_some, hdrP, letO, if_true]
      unfold manyHP
      by_cases hn : n = 0
      ·rw [if_pos hn, decide_eq_true (by omega), if_pos rfl, whole_eq _ _ (by show p.out.length ≤ _; omega)]
       rfl
      ·rw [if_neg hn, decide_eq_false (by omega)]
       rfl
    ·rw [if_neg (show ¬ (c.toNat : Int) = 42 from fun e => h3 ((toNat_eq_iff c 42).1 e)), if_neg h3, line_eq p hl (by omega) z1 (by omega) (by omega)]
     rfl

/-! ### Feed -/
def runP (p : parse.parser) : parse.parser :=
 if h : (stepP p).1 = true ∧ (stepP p).2.s.length < p.s.length then runP (stepP p).2 else (stepP p).2
termination_by p.s.length
decreasing_by exact h.2

theorem runP_next {p : parse.parser} (h : PInv p) (hs : (stepP p).1 = true) : runP p = runP (stepP p).2 := by
 rw [runP, dif_pos ⟨hs, (stepP_ok h hs).2.1⟩]
theorem runP_stop {p : parse.parser} (hs : (stepP p).1 = false) : runP p = (stepP p).2 := by
 rw [runP, dif_neg (by rw [hs]; simp)]

def ofP (p : parse.parser) : parse.Feed.S0 := ⟨p.in_.Rest, p.in_.Args, p.in_.Left, p.in_.Size, p.in_.Body, p.in_.Need, p.in_.Dead, p.s, p.l.Args, p.l.Bulk, p.l.Line, p.out⟩
def outP (p : parse.parser) : (List UInt8) × (List (List UInt8)) × Int × Int × Bool × Int × Int × (List UInt8) × Int × Int × Int × (List api.Request) := (p.in_.Rest, p.in_.Args, p.in_.Left, p.in_.Size, p.in_.Body, p.in_.Need, p.in_.Dead, p.s, p.l.Args, p.l.Bulk, p.l.Line, p.out)

theorem Feed_loop (in_ : api.Input) (l : api.Limits) : ∀ (n : Nat) (p : parse.parser), p.s.length ≤ n → PInv p → parse.Feed.loop0 in_ l (ofP p) = some (outP (runP p)) := by
 intro n
 induction n with
 | zero =>
  intro p hn hp
  have hb : parse.Feed.body0 in_ l (ofP p) = if (stepP p).1 = true then some (.inl (ofP (stepP p).2)) else some (.inr (outP (stepP p).2)) := by
   show (parse.parser.step p).bind _ = _
   rw [step_eq p hp]; rfl
  have hs : (stepP p).1 = false := by
   cases hs : (stepP p).1 with
   | false => rfl
   | true => have := (stepP_ok hp hs).2.1; omega
  rw [hs] at hb
  rw [runP_stop hs]
  exact whileO_end hb
 | succ n ih =>
  intro p hn hp
  have hb : parse.Feed.body0 in_ l (ofP p) = if (stepP p).1 = true then some (.inl (ofP (stepP p).2)) else some (.inr (outP (stepP p).2)) := by
   show (parse.parser.step p).bind _ = _
   rw [step_eq p hp]; rfl
  cases hs : (stepP p).1 with
  | false =>
   rw [hs] at hb
   rw [runP_stop hs]
   exact whileO_end hb
  | true =>
   obtain ⟨g1, g2, g3⟩ := stepP_ok hp hs
   rw [hs] at hb
   rw [runP_next hp hs]
   exact whileO_next hb (ih _ (by omega) g1)

def startP (in_ : api.Input) (b : List UInt8) (l : api.Limits) : parse.parser := { in_ := { in_ with Rest := [] }, s := in_.Rest ++ b, l := limM l, out := [] }
def feedM (in_ : api.Input) (b : List UInt8) (l : api.Limits) : api.Input × List api.Request × Int :=
 ({ (runP (startP in_ b l)).in_ with Rest := (runP (startP in_ b l)).s }, (runP (startP in_ b l)).out, (runP (startP in_ b l)).in_.Dead)

/-- A step that is none changes nothing, or ends all. -/
theorem stepP_stop {p : parse.parser} (hs : (stepP p).1 = false) : (stepP p).2 = p ∨ ∃ e, (stepP p).2 = deadP p e := by
 unfold stepP at hs ⊢
 by_cases h1 : p.in_.Body = true
 ·rw [if_pos h1] at hs ⊢
  cases hc : crlfM (p.s.drop (needN p)) with
  | more => exact .inl rfl
  | dead => exact .inr ⟨_, rfl⟩
  | ok => rw [hc] at hs; cases hs
 ·rw [if_neg h1] at hs ⊢
  by_cases h2 : 0 < p.in_.Left
  ·rw [if_pos h2] at hs ⊢
   cases hc : hdrM p.s 36 p.l.Bulk.toNat 6 with
   | more => exact .inl rfl
   | dead e => exact .inr ⟨_, rfl⟩
   | ok n k => rw [hc] at hs; cases hs
  ·rw [if_neg h2] at hs ⊢
   cases hp : p.s with
   | nil => exact .inl rfl
   | cons c t =>
    rw [hp] at hs
    simp only at hs ⊢
    rw [← hp] at hs ⊢
    by_cases h3 : c = 42
    ·rw [if_pos h3] at hs ⊢
     cases hc : hdrM p.s 42 p.l.Args.toNat 7 with
     | more => exact .inl rfl
     | dead e => exact .inr ⟨_, rfl⟩
     | ok n k => rw [hc] at hs; cases hs
    ·rw [if_neg h3] at hs ⊢
     cases hc : lineM p.s p.l with
     | more => exact .inl rfl
     | dead e => exact .inr ⟨_, rfl⟩
     | ok n k => rw [hc] at hs; cases hs

/-- What holds of what stands still, and of what went on. -/
theorem runP_ind {motive : parse.parser → Prop} (hstop : ∀ p, PInv p → (stepP p).1 = false → motive p) (hgo : ∀ p, PInv p → (stepP p).1 = true → motive (stepP p).2 → motive p) : ∀ p, PInv p → motive p := by
 have : ∀ (n : Nat) (p : parse.parser), p.s.length ≤ n → PInv p → motive p := by
  intro n
  induction n with
  | zero =>
   intro p hn hp
   cases hs : (stepP p).1 with
   | false => exact hstop p hp hs
   | true => have := (stepP_ok hp hs).2.1; omega
  | succ n ih =>
   intro p hn hp
   cases hs : (stepP p).1 with
   | false => exact hstop p hp hs
   | true =>
    obtain ⟨g1, g2, g3⟩ := stepP_ok hp hs
    exact hgo p hp hs (ih _ (by omega) g1)
 exact fun p hp => this _ p (Nat.le_refl _) hp

theorem runP_inv {p : parse.parser} (h : PInv p) : PInv (runP p) ∧ (runP p).s.length ≤ p.s.length ∧ (runP p).l = p.l := by
 refine runP_ind (motive := fun p => PInv (runP p) ∧ (runP p).s.length ≤ p.s.length ∧ (runP p).l = p.l) (fun p hp hs => ?_) (fun p hp hs ih => ?_) p h
 ·rw [runP_stop hs]
  rcases stepP_stop hs with h | ⟨e, h⟩
  ·rw [h]; exact ⟨hp, Nat.le_refl _, rfl⟩
  ·rw [h]
   refine ⟨⟨hp.lim, ⟨by show (0 : Int) ≤ 0; omega, by show (0 : Int) + ((0 : Nat) : Int) ≤ _; omega⟩, ?_, by show 0 + 0 ≤ _; omega, ⟨by show (0 : Int) ≤ 0; omega, by show (0 : Int) ≤ _; omega⟩, ⟨by show (0 : Int) ≤ 0; omega, by show (0 : Int) ≤ _; omega⟩, fun h => by cases h⟩, Nat.zero_le _, rfl⟩
   have := hp.out
   show p.out.length + 0 ≤ _; omega
 ·obtain ⟨g1, g2, g3⟩ := stepP_ok hp hs
  rw [runP_next hp hs]
  exact ⟨ih.1, by omega, ih.2.2.trans g3⟩

theorem Feed_eq (in_ : api.Input) (b : List UInt8) (l : api.Limits) (hd : in_.Dead = 0) (hp : PInv (startP in_ b l)) : parse.Feed in_ b l = some (feedM in_ b l) := by
 have hs := (runP_inv hp).2.1
 have hq := hp.size.2
 have hz := hp.size.1
 have ha := hp.args
 have hsl : (startP in_ b l).s.length = in_.Rest.length + b.length := by simp [startP]
 have hal : (startP in_ b l).in_.Args = in_.Args := rfl
 rw [hal] at ha
 unfold parse.Feed
 rw [if_pos hd, need_eq (by omega), Limits_eq]
 simp only [Option.bind_some]
 unfold slices.Clone_string
 rw [need_eq (by simp only [List.length_nil]; omega)]
 simp only [Option.bind_some]
 have hloop := Feed_loop in_ l (startP in_ b l).s.length (startP in_ b l) (Nat.le_refl _) hp
 have e : ofP (startP in_ b l) = ⟨([] : List UInt8), in_.Args, in_.Left, in_.Size, in_.Body, in_.Need, in_.Dead, in_.Rest ++ b, (limM l).Args, (limM l).Bulk, (limM l).Line, ([] : List api.Request)⟩ := rfl
 rw [e] at hloop
 rw [hloop]
 simp only [Option.bind_some, outP]
 unfold strings.Clone stringslite.Clone
 rw [need_eq (by omega)]
 rfl

theorem start_inv (b : List UInt8) (l : api.Limits) (h : b.length ≤ 100000000) : PInv (startP emptyIn b l) where
 lim := limM_good l
 size := ⟨by show (0 : Int) ≤ 0; omega, by show (0 : Int) + ((([] : List UInt8) ++ b).length : Int) ≤ _; simp; omega⟩
 out := by show 0 + (([] : List UInt8) ++ b).length ≤ _; simp; omega
 args := by show 0 + (([] : List UInt8) ++ b).length ≤ _; simp; omega
 need := ⟨by show (0 : Int) ≤ 0; omega, by show (0 : Int) ≤ _; omega⟩
 left := ⟨by show (0 : Int) ≤ 0; omega, by show (0 : Int) ≤ _; omega⟩
 body := fun h => by cases h

end Go.Pu
