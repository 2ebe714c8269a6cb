import Derived.Test.YtakmcdnailmhlaaGreatPSPuParse3
set_option maxRecDepth 100000
namespace Go.Pu
open Go.Lift

def OutB (out : List api.Request) : Prop := ∀ r ∈ out, r.Args.length ≤ 100000000

theorem stepP_out {p : parse.parser} (h : PInv p) (ho : OutB p.out) : OutB (stepP p).2.out := by
 have hstop : (stepP p).1 = false → OutB (stepP p).2.out := fun hs => by
  rcases stepP_stop hs with h | ⟨e, h⟩ <;> rw [h] <;> exact ho
 cases hs : (stepP p).1 with
 | false => exact hstop hs
 | true =>
  unfold stepP at hs ⊢
  by_cases h1 : p.in_.Body = true
  ·rw [if_pos h1] at hs ⊢
   cases hc : crlfM (p.s.drop (needN p)) with
   | more => rw [hc] at hs; cases hs
   | dead => rw [hc] at hs; cases hs
   | ok =>
    have hk := crlf_len hc
    have ha := h.args
    simp only
    unfold bodyP
    by_cases hz : p.in_.Left - 1 = 0
    ·rw [if_pos hz]
     intro r hr
     rcases List.mem_append.1 hr with hr | hr
     ·exact ho r hr
     ·rw [List.mem_singleton] at hr; subst hr; simp; omega
    ·rw [if_neg hz]; exact ho
  ·rw [if_neg h1] at hs ⊢
   by_cases h2 : 0 < p.in_.Left
   ·rw [if_pos h2] at hs ⊢
    cases hc : hdrM p.s 36 p.l.Bulk.toNat 6 with
    | more => exact ho
    | dead e => exact ho
    | ok n k => exact ho
   ·rw [if_neg h2] at hs ⊢
    cases hp : p.s with
    | nil => exact ho
    | cons c t =>
     rw [hp] at hs
     simp only at hs ⊢
     rw [← hp] at hs ⊢
     by_cases h3 : c = 42
     ·rw [if_pos h3] at hs ⊢
      cases hc : hdrM p.s 42 p.l.Args.toNat 7 with
      | more => exact ho
      | dead e => exact ho
      | ok n k =>
       simp only
       unfold manyHP
       split <;> exact ho
     ·rw [if_neg h3] at hs ⊢
      cases hc : lineM p.s p.l with
      | more => exact ho
      | dead e => exact ho
      | ok args n =>
       have := (lineM_ok hc).2.2
       have hl := h.lim.a
       show OutB (if args ≠ [] then p.out ++ [({ Args := args, Size := (pastP p (n + 1)).in_.Size } : api.Request)] else p.out)
       by_cases hne : args ≠ []
       ·rw [if_pos hne]
        intro r hr
        rcases List.mem_append.1 hr with hr | hr
        ·exact ho r hr
        ·rw [List.mem_singleton] at hr; subst hr; simp only; omega
       ·rw [if_neg hne]; exact ho

theorem runP_out {p : parse.parser} (h : PInv p) (ho : OutB p.out) : OutB (runP p).out := by
 refine runP_ind (motive := fun p => OutB p.out → OutB (runP p).out) (fun p hp hs ho => ?_) (fun p hp hs ih ho => ?_) p h ho
 ·rw [runP_stop hs]; exact stepP_out hp ho
 ·rw [runP_next hp hs]; exact ih (stepP_out hp ho)

/-! ### How much there is -/
def lenS : List (List UInt8) → Nat
 | [] => 0
 | s :: l => s.length + lenS l
end Go.Pu

set_option maxRecDepth 100000
namespace Go.Pu
open Go.Lift

/-! ### With more behind it -/
theorem hdrGo_mono {most : Nat} {over : Int} (b : List UInt8) : ∀ (t : List UInt8) (i n : Nat), hdrGo most over t i n ≠ .more → hdrGo most over (t ++ b) i n = hdrGo most over t i n
 | [], i, n, h => by simp [hdrGo] at h
 | c :: t, i, n, h => by
  rw [List.cons_append]
  rw [hdrGo] at h ⊢
  rw [hdrGo]
  by_cases hc : c = 13 ∧ 1 < i
  ·rw [if_pos hc] at h ⊢
   rw [if_pos hc]
   cases t with
   | nil => simp [crEnd] at h
   | cons d t => rfl
  ·rw [if_neg hc] at h ⊢
   rw [if_neg hc]
   by_cases hx : ¬ isDig c ∨ (1 < i ∧ n = 0)
   ·rw [if_pos hx, if_pos hx]
   ·rw [if_neg hx] at h ⊢
    rw [if_neg hx]
    by_cases hm : most < 10 * n + (c.toNat - 48)
    ·rw [if_pos hm, if_pos hm]
    ·rw [if_neg hm] at h ⊢
     rw [if_neg hm]
     exact hdrGo_mono b t _ _ h
theorem hdrM_mono {mark : UInt8} {most : Nat} {over : Int} (b s : List UInt8) (h : hdrM s mark most over ≠ .more) : hdrM (s ++ b) mark most over = hdrM s mark most over := by
 cases s with
 | nil => simp [hdrM] at h
 | cons c t =>
  rw [List.cons_append]
  rw [hdrM] at h ⊢
  rw [hdrM]
  by_cases hc : c = mark
  ·rw [if_pos hc] at h ⊢
   rw [if_pos hc]
   exact hdrGo_mono b t 1 0 h
  ·rw [if_neg hc, if_neg hc]
theorem crlf_mono (b t : List UInt8) (h : crlfM t ≠ .more) : crlfM (t ++ b) = crlfM t := by
 match t, h with
 | [], h => simp [crlfM] at h
 | [c], h =>
  simp only [crlfM] at h
  by_cases hc : c = 13
  ·rw [if_pos hc] at h; exact absurd rfl h
  ·simp [crlfM, hc]
 | c :: d :: u, h => rfl
theorem crlf_drop (b s : List UInt8) (n : Nat) (h : crlfM (s.drop n) ≠ .more) : crlfM ((s ++ b).drop n) = crlfM (s.drop n) := by
 have hn : n ≤ s.length := by
  by_cases hc : n ≤ s.length
  ·exact hc
  ·rw [List.drop_of_length_le (by omega)] at h; exact absurd rfl h
 rw [List.drop_append_of_le_length hn]
 exact crlf_mono b _ h

theorem nlN_append (b : List UInt8) : ∀ (s : List UInt8), (nlN s < s.length → nlN (s ++ b) = nlN s) ∧ (¬ nlN s < s.length → s.length ≤ nlN (s ++ b))
 | [] => ⟨fun h => by simp at h, fun _ => by simp⟩
 | c :: t => by
  obtain ⟨i1, i2⟩ := nlN_append b t
  by_cases hc : c = 10
  ·subst hc
   rw [List.cons_append, nlN_cons_nl, nlN_cons_nl]
   exact ⟨fun _ => rfl, fun h => absurd (by simp) h⟩
  ·rw [List.cons_append, nlN_cons t hc, nlN_cons _ hc]
   simp only [List.length_cons]
   exact ⟨fun h => by rw [i1 (by omega)], fun h => by have := i2 (by omega); omega⟩

theorem lineM_mono (b s : List UInt8) (l : api.Limits) (h : ∀ x, lineM s l = x → x ≠ .more) : lineM (s ++ b) l = lineM s l := by
 have h := h _ rfl
 obtain ⟨i1, i2⟩ := nlN_append b s
 unfold lineM at h ⊢
 by_cases h1 : nlN s < s.length
 ·rw [if_pos h1] at h ⊢
  rw [i1 h1, if_pos (by simp; omega), List.take_append_of_le_length (by omega)]
 ·rw [if_neg h1] at h ⊢
  by_cases h2 : l.Line < (s.length : Int)
  ·rw [if_pos h2]
   have := i2 h1
   by_cases h3 : nlN (s ++ b) < (s ++ b).length
   ·rw [if_pos h3, if_pos (by omega)]
   ·rw [if_neg h3, if_pos (by simp; omega)]
  ·rw [if_neg h2] at h; exact absurd rfl h

inductive SR where
 | more
 | dead (e : Int)
 | next (q : parse.parser)

def stepR (p : parse.parser) : SR :=
 if p.in_.Body = true then
  match crlfM (p.s.drop (needN p)) with
  | .more => .more
  | .dead => .dead 5
  | .ok => .next (bodyP p)
 else if 0 < p.in_.Left then
  match hdrM p.s 36 p.l.Bulk.toNat 6 with
  | .more => .more
  | .dead e => .dead e
  | .ok n k => .next (argHP p n k)
 else match p.s with
  | [] => .more
  | c :: _ => if c = 42 then
    match hdrM p.s 42 p.l.Args.toNat 7 with
    | .more => .more
    | .dead e => .dead e
    | .ok n k => .next (manyHP p n k)
   else match lineM p.s p.l with
    | .more => .more
    | .dead e => .dead e
    | .ok args n => .next (wholeP args (pastP p (n + 1)))

theorem stepP_R (p : parse.parser) : stepP p = match stepR p with | .more => (false, p) | .dead e => (false, deadP p e) | .next q => (true, q) := by
 unfold stepP stepR
 by_cases h1 : p.in_.Body = true
 ·rw [if_pos h1, if_pos h1]
  cases crlfM (p.s.drop (needN p)) <;> rfl
 ·rw [if_neg h1, if_neg h1]
  by_cases h2 : 0 < p.in_.Left
  ·rw [if_pos h2, if_pos h2]
   cases hdrM p.s 36 p.l.Bulk.toNat 6 <;> rfl
  ·rw [if_neg h2, if_neg h2]
   cases hp : p.s with
   | nil => rfl
   | cons c t =>
    simp only
    by_cases h3 : c = 42
    ·rw [if_pos h3, if_pos h3]
     cases hdrM (c :: t) 42 p.l.Args.toNat 7 <;> rfl
    ·rw [if_neg h3, if_neg h3]
     cases lineM (c :: t) p.l <;> rfl

def addS (p : parse.parser) (b : List UInt8) : parse.parser := { p with s := p.s ++ b }
def addO (p : parse.parser) (o : List api.Request) : parse.parser := { p with out := o ++ p.out }

theorem stepR_addS {p : parse.parser} (hp : PInv p) (b : List UInt8) : (∀ q, stepR p = .next q → stepR (addS p b) = .next (addS q b)) ∧ (∀ e, stepR p = .dead e → stepR (addS p b) = .dead e ∧ (e = 5 ∨ e = 6 ∨ e = 7 ∨ e = 16)) := by
 have h1' : (addS p b).in_ = p.in_ := rfl
 have h2' : (addS p b).l = p.l := rfl
 have h3' : (addS p b).s = p.s ++ b := rfl
 have h4' : needN (addS p b) = needN p := rfl
 unfold stepR
 rw [h1', h2', h3', h4']
 by_cases h1 : p.in_.Body = true
 ·rw [if_pos h1, if_pos h1]
  cases hc : crlfM (p.s.drop (needN p)) with
  | more => exact ⟨fun q h => (nomatch h), fun e h => (nomatch h)⟩
  | dead =>
   rw [crlf_drop b p.s _ (by rw [hc]; simp), hc]
   exact ⟨fun q h => (nomatch h), fun e h => ⟨h, by injection h with h; omega⟩⟩
  | ok =>
   have hk := crlf_len hc
   rw [crlf_drop b p.s _ (by rw [hc]; simp), hc]
   refine ⟨fun q h => ?_, fun e h => (nomatch h)⟩
   simp only [SR.next.injEq] at h ⊢
   subst h
   unfold bodyP
   rw [h1', h2', h3', h4', List.take_append_of_le_length (by omega), List.drop_append_of_le_length (by omega)]
   split <;> rfl
 ·rw [if_neg h1, if_neg h1]
  by_cases h2 : 0 < p.in_.Left
  ·rw [if_pos h2, if_pos h2]
   cases hc : hdrM p.s 36 p.l.Bulk.toNat 6 with
   | more => exact ⟨fun q h => (nomatch h), fun e h => (nomatch h)⟩
   | dead e =>
    have := hdrM_dead hc
    rw [hdrM_mono b p.s (by rw [hc]; simp), hc]
    exact ⟨fun q h => (nomatch h), fun e h => ⟨h, by injection h with h; omega⟩⟩
   | ok n k =>
    obtain ⟨_, hk, _⟩ := hdrM_ok hc
    rw [hdrM_mono b p.s (by rw [hc]; simp), hc]
    refine ⟨fun q h => ?_, fun e h => (nomatch h)⟩
    simp only [SR.next.injEq] at h ⊢
    subst h
    unfold argHP pastP
    rw [h1', h3', List.drop_append_of_le_length hk]
    rfl
  ·rw [if_neg h2, if_neg h2]
   cases hps : p.s with
   | nil => exact ⟨fun q h => (nomatch h), fun e h => (nomatch h)⟩
   | cons c t =>
    rw [List.cons_append]
    simp only
    rw [← List.cons_append, ← hps]
    by_cases h3 : c = 42
    ·rw [if_pos h3, if_pos h3]
     cases hc : hdrM p.s 42 p.l.Args.toNat 7 with
     | more => exact ⟨fun q h => (nomatch h), fun e h => (nomatch h)⟩
     | dead e =>
      have := hdrM_dead hc
      rw [hdrM_mono b p.s (by rw [hc]; simp), hc]
      exact ⟨fun q h => (nomatch h), fun e h => ⟨h, by injection h with h; omega⟩⟩
     | ok n k =>
      obtain ⟨_, hk, _⟩ := hdrM_ok hc
      rw [hdrM_mono b p.s (by rw [hc]; simp), hc]
      refine ⟨fun q h => ?_, fun e h => (nomatch h)⟩
      simp only [SR.next.injEq] at h ⊢
      subst h
      unfold manyHP wholeP pastP
      rw [h1', h3', List.drop_append_of_le_length hk]
      split <;> rfl
    ·rw [if_neg h3, if_neg h3]
     cases hc : lineM p.s p.l with
     | more => exact ⟨fun q h => (nomatch h), fun e h => (nomatch h)⟩
     | dead e =>
      have := lineM_dead hc
      rw [lineM_mono b p.s p.l (by rw [hc]; rintro x rfl; simp), hc]
      exact ⟨fun q h => (nomatch h), fun e h => ⟨h, by injection h with h; omega⟩⟩
     | ok args n =>
      obtain ⟨hk, _, _⟩ := lineM_ok hc
      rw [lineM_mono b p.s p.l (by rw [hc]; rintro x rfl; simp), hc]
      refine ⟨fun q h => ?_, fun e h => (nomatch h)⟩
      simp only [SR.next.injEq] at h ⊢
      subst h
      unfold wholeP pastP
      rw [h1', h3', List.drop_append_of_le_length (by omega)]
      rfl

theorem stepP_addO (p : parse.parser) (o : List api.Request) : stepP (addO p o) = ((stepP p).1, addO (stepP p).2 o) := by
 unfold stepP
 show (if p.in_.Body = true then _ else _) = _
 by_cases h1 : p.in_.Body = true
 ·rw [if_pos h1, if_pos h1]
  show (match crlfM (p.s.drop (needN p)) with | .more => _ | .dead => _ | .ok => _) = _
  cases hc : crlfM (p.s.drop (needN p)) with
  | more => rfl
  | dead => rfl
  | ok =>
   simp only
   unfold bodyP
   show (true, if p.in_.Left - 1 = 0 then _ else _) = _
   by_cases hz : p.in_.Left - 1 = 0
   ·rw [if_pos hz, if_pos hz]
    simp [addO, needN, List.append_assoc]
   ·rw [if_neg hz, if_neg hz]; rfl
 ·rw [if_neg h1, if_neg h1]
  show (if 0 < p.in_.Left then _ else _) = _
  by_cases h2 : 0 < p.in_.Left
  ·rw [if_pos h2, if_pos h2]
   show (match hdrM p.s 36 p.l.Bulk.toNat 6 with | .more => _ | .dead e => _ | .ok n k => _) = _
   cases hdrM p.s 36 p.l.Bulk.toNat 6 <;> rfl
  ·rw [if_neg h2, if_neg h2]
   show (match p.s with | [] => _ | c :: _ => _) = _
   cases hps : p.s with
   | nil => rfl
   | cons c t =>
    simp only
    rw [← hps]
    by_cases h3 : c = 42
    ·rw [if_pos h3, if_pos h3]
     show (match hdrM p.s 42 p.l.Args.toNat 7 with | .more => _ | .dead e => _ | .ok n k => _) = _
     cases hdrM p.s 42 p.l.Args.toNat 7 with
     | more => rfl
     | dead e => rfl
     | ok n k =>
      simp only
      unfold manyHP
      split <;> rfl
    ·rw [if_neg h3, if_neg h3]
     show lineP (lineM p.s p.l) (addO p o) = _
     cases lineM p.s p.l with
     | more => rfl
     | dead e => rfl
     | ok args n =>
      simp only [lineP, wholeP]
      by_cases hn : args ≠ []
      ·rw [if_pos hn, if_pos hn]
       simp [addO, pastP, List.append_assoc]
      ·rw [if_neg hn, if_neg hn]; rfl

theorem runP_addO {p : parse.parser} (hp : PInv p) (o : List api.Request) : runP (addO p o) = addO (runP p) o := by
 refine runP_ind (motive := fun p => runP (addO p o) = addO (runP p) o) (fun p hp hs => ?_) (fun p hp hs ih => ?_) p hp
 ·rw [runP_stop (by rw [stepP_addO]; exact hs), runP_stop hs, stepP_addO]
 ·have h1 : runP (addO p o) = runP (addO (stepP p).2 o) := by
   rw [runP, dif_pos]
   ·rw [stepP_addO]
   ·rw [stepP_addO]
    exact ⟨hs, (stepP_ok hp hs).2.1⟩
  rw [h1, ih, runP_next hp hs]

/-! ### What stays as it was -/
theorem stepP_fresh {p : parse.parser} (hr : p.in_.Rest = []) (hd : p.in_.Dead = 0) : (stepP p).2.in_.Rest = [] ∧ ((stepP p).1 = true → (stepP p).2.in_.Dead = 0) := by
 rw [stepP_R]
 unfold stepR
 by_cases h1 : p.in_.Body = true
 ·rw [if_pos h1]
  cases crlfM (p.s.drop (needN p)) with
  | more => exact ⟨hr, fun h => by cases h⟩
  | dead => exact ⟨rfl, fun h => by cases h⟩
  | ok =>
   simp only
   unfold bodyP
   split
   ·exact ⟨rfl, fun _ => rfl⟩
   ·exact ⟨hr, fun _ => hd⟩
 ·rw [if_neg h1]
  by_cases h2 : 0 < p.in_.Left
  ·rw [if_pos h2]
   cases hdrM p.s 36 p.l.Bulk.toNat 6 with
   | more => exact ⟨hr, fun h => by cases h⟩
   | dead e => exact ⟨rfl, fun h => by cases h⟩
   | ok n k => exact ⟨hr, fun _ => hd⟩
  ·rw [if_neg h2]
   cases hps : p.s with
   | nil => exact ⟨hr, fun h => by cases h⟩
   | cons c t =>
    simp only
    by_cases h3 : c = 42
    ·rw [if_pos h3]
     cases hdrM (c :: t) 42 p.l.Args.toNat 7 with
     | more => exact ⟨hr, fun h => by cases h⟩
     | dead e => exact ⟨rfl, fun h => by cases h⟩
     | ok n k =>
      simp only
      unfold manyHP
      split
      ·exact ⟨rfl, fun _ => rfl⟩
      ·exact ⟨hr, fun _ => hd⟩
    ·rw [if_neg h3]
     cases lineM (c :: t) p.l with
     | more => exact ⟨hr, fun h => by cases h⟩
     | dead e => exact ⟨rfl, fun h => by cases h⟩
     | ok args n => exact ⟨rfl, fun _ => rfl⟩

/-- What comes of more bytes. -/
theorem runP_addS {p : parse.parser} (hp : PInv p) (b : List UInt8) (hr : p.in_.Rest = []) (hd : p.in_.Dead = 0) (hpb : PInv (addS p b)) :
  ((runP p).in_.Dead = 0 ∧ (runP p).in_.Rest = [] ∧ runP (addS p b) = runP (addS (runP p) b) ∧ PInv (addS (runP p) b)) ∨ (∃ p' e, runP p = deadP p' e ∧ (e = 5 ∨ e = 6 ∨ e = 7 ∨ e = 16) ∧ runP (addS p b) = runP p) := by
 refine runP_ind (motive := fun p => p.in_.Rest = [] → p.in_.Dead = 0 → PInv (addS p b) → ((runP p).in_.Dead = 0 ∧ (runP p).in_.Rest = [] ∧ runP (addS p b) = runP (addS (runP p) b) ∧ PInv (addS (runP p) b)) ∨ (∃ p' e, runP p = deadP p' e ∧ (e = 5 ∨ e = 6 ∨ e = 7 ∨ e = 16) ∧ runP (addS p b) = runP p)) (fun p hp hs hr hd hpb => ?_) (fun p hp hs ih hr hd hpb => ?_) p hp hr hd hpb
 ·have hR := stepP_R p
  cases hc : stepR p with
  | more =>
   rw [hc] at hR
   have e : runP p = p := by rw [runP_stop hs, hR]
   rw [e]
   exact .inl ⟨hd, hr, rfl, hpb⟩
  | dead e =>
   rw [hc] at hR
   obtain ⟨h1, h2⟩ := (stepR_addS hp b).2 e hc
   have hr2 := stepP_R (addS p b)
   rw [h1] at hr2
   refine .inr ⟨p, e, by rw [runP_stop hs, hR], h2, ?_⟩
   rw [runP_stop (by rw [hr2]), hr2, runP_stop hs, hR]
   rfl
  | next q => rw [hc] at hR; rw [hR] at hs; cases hs
 ·have hf := stepP_fresh hr hd
  have hR := stepP_R p
  cases hc : stepR p with
  | more => rw [hc] at hR; rw [hR] at hs; cases hs
  | dead e => rw [hc] at hR; rw [hR] at hs; cases hs
  | next q =>
   rw [hc] at hR
   have h1 := (stepR_addS hp b).1 q hc
   have hr2 := stepP_R (addS p b)
   rw [h1] at hr2
   have hs2 : (stepP (addS p b)).1 = true := by rw [hr2]
   have hinv := (stepP_ok hpb hs2).1
   rw [runP_next hpb hs2, runP_next hp hs]
   rw [hr2] at hinv ⊢
   have hf2 := hf.2 hs
   rw [hR] at ih hf hf2 ⊢
   exact ih hf.1 hf2 hinv

/-- What is told of all that came so far. -/
def inOf (p : parse.parser) : api.Input := { p.in_ with Rest := p.s }

/-- One feeding behind another one. -/
theorem feed_more {all b : List UInt8} {l : api.Limits} (hlen : all.length + b.length ≤ 100000000) :
  ((runP (startP emptyIn all l)).in_.Dead = 0 ∧
   PInv (startP (inOf (runP (startP emptyIn all l))) b l) ∧
   runP (startP emptyIn (all ++ b) l) = addO (runP (startP (inOf (runP (startP emptyIn all l))) b l)) (runP (startP emptyIn all l)).out) ∨
  (∃ e, (e = 5 ∨ e = 6 ∨ e = 7 ∨ e = 16) ∧ inOf (runP (startP emptyIn all l)) = { emptyIn with Dead := e } ∧ runP (startP emptyIn (all ++ b) l) = runP (startP emptyIn all l)) := by
 have hp := start_inv all l (by omega)
 have hpb : PInv (addS (startP emptyIn all l) b) := start_inv (all ++ b) l (by simp; omega)
 have hlm := (runP_inv hp).2.2
 rcases runP_addS hp b rfl rfl hpb with ⟨h1, h2, h3, h4⟩ | ⟨p', e, h1, h2, h3⟩
 ·left
  have e1 : addS (runP (startP emptyIn all l)) b = addO (startP (inOf (runP (startP emptyIn all l))) b l) (runP (startP emptyIn all l)).out := by
   generalize hq : runP (startP emptyIn all l) = q at *
   obtain ⟨⟨r, a, le, si, bo, ne, de⟩, qs, ql, qo⟩ := q
   simp only at h2 hlm
   subst h2
   simp only [addS, addO, startP, List.append_nil]
   rw [hlm]
   rfl
  have h5 : PInv (startP (inOf (runP (startP emptyIn all l))) b l) := by
   obtain ⟨g1, g2, g3, g4, g5, g6, g7⟩ := h4
   refine ⟨limM_good l, g2, ?_, g4, g5, g6, g7⟩
   have : (runP (startP emptyIn all l)).out.length + ((runP (startP emptyIn all l)).s ++ b).length ≤ 100000000 := g3
   show 0 + ((runP (startP emptyIn all l)).s ++ b).length ≤ _
   omega
  refine ⟨h1, h5, ?_⟩
  show runP (addS (startP emptyIn all l) b) = _
  rw [h3, e1, runP_addO h5]
 ·right
  refine ⟨e, h2, ?_, h3⟩
  rw [h1]; rfl

end Go.Pu
