import Derived.Test.YtakmcdnailmhlaaGreatPSPuParse2
set_option maxRecDepth 100000
namespace Go.Pu
open Go.Lift

theorem hdrGo_dead {most : Nat} {over e : Int} : ∀ {t : List UInt8} {i n : Nat}, hdrGo most over t i n = .dead e → e = 5 ∨ e = over
 | [], i, n, h => by simp [hdrGo] at h
 | c :: t, i, n, h => by
  rw [hdrGo] at h
  by_cases hc : c = 13 ∧ 1 < i
  ·rw [if_pos hc] at h
   cases t with
   | nil => simp [crEnd] at h
   | cons d t =>
    simp only [crEnd] at h
    by_cases hd : d = 10
    ·rw [if_pos hd] at h; cases h
    ·rw [if_neg hd] at h; injection h with h; exact .inl h.symm
  ·rw [if_neg hc] at h
   by_cases hx : ¬ isDig c ∨ (1 < i ∧ n = 0)
   ·rw [if_pos hx] at h; injection h with h; exact .inl h.symm
   ·rw [if_neg hx] at h
    by_cases hm : most < 10 * n + (c.toNat - 48)
    ·rw [if_pos hm] at h; injection h with h; exact .inr h.symm
    ·rw [if_neg hm] at h; exact hdrGo_dead h
theorem hdrM_dead {s : List UInt8} {mark : UInt8} {most : Nat} {over e : Int} (h : hdrM s mark most over = .dead e) : e = 5 ∨ e = over := by
 cases s with
 | nil => simp [hdrM] at h
 | cons c t =>
  rw [hdrM] at h
  by_cases hc : c = mark
  ·rw [if_pos hc] at h; exact hdrGo_dead h
  ·rw [if_neg hc] at h; injection h with h; exact .inl h.symm
theorem lineM_dead {s : List UInt8} {l : api.Limits} {e : Int} (h : lineM s l = .dead e) : e = 6 ∨ e = 7 ∨ e = 16 := by
 unfold lineM at h
 split at h
 ·split at h
  ·injection h with h; exact .inl h.symm
  ·split at h
   ·injection h with h; exact .inr (.inr h.symm)
   ·split at h
    ·injection h with h; exact .inr (.inl h.symm)
    ·split at h
     ·injection h with h; exact .inl h.symm
     ·cases h
 ·split at h
  ·injection h with h; exact .inl h.symm
  ·cases h

theorem ends_eq (t : List UInt8) (ht : t.length ≤ 1000000000) : mewsref05.ends t = some (match crlfM t with | .more => -1 | .dead => 5 | .ok => 0) := by
 have hloop : mewsref05.ends.loop0 t ⟨0⟩ = some (match crlfM t with | .more => .inr (-1) | .dead => .inr 5 | .ok => .inl ()) := by
  unfold mewsref05.ends.loop0
  cases t with
  | nil => exact whileO_end rfl
  | cons c t =>
   have hb0 : bix (c :: t) 0 = (c.toNat : Int) := by simpa using bix_app [] t c
   have h0 : mewsref05.ends.body0 (c :: t) ⟨0⟩ = if c = 13 then some (.inl ⟨1⟩) else some (.inr (.inr 5)) := by
    unfold mewsref05.ends.body0
    simp only
    rw [if_pos (by omega), if_neg (by simp only [List.length_cons]; omega), need_eq ⟨by omega, by simp⟩, need_eq ⟨by omega, by decide⟩, hb0, show bix ([13, 10] : List UInt8) 0 = 13 from rfl]
    by_cases hc : c = 13
    ·rw [if_pos (by rw [hc]; rfl), if_pos hc]; rfl
    ·rw [if_neg (show ¬ (c.toNat : Int) = 13 from fun e => hc ((toNat_eq_iff c 13).1 e)), if_neg hc]
   simp only [crlfM]
   by_cases hc : c = 13
   ·rw [if_pos hc] at h0 ⊢
    refine whileO_next h0 ?_
    cases t with
    | nil =>
     apply whileO_end
     unfold mewsref05.ends.body0
     simp only
     rw [if_pos (by omega), if_pos (by simp)]
    | cons d t =>
     have hb1 : bix (c :: d :: t) 1 = (d.toNat : Int) := by simpa using bix_app1 [] t c d
     have h1 : mewsref05.ends.body0 (c :: d :: t) ⟨1⟩ = if d = 10 then some (.inl ⟨2⟩) else some (.inr (.inr 5)) := by
      unfold mewsref05.ends.body0
      simp only
      rw [if_pos (by omega), if_neg (by simp only [List.length_cons]; omega), need_eq ⟨by omega, by simp only [List.length_cons]; omega⟩, need_eq ⟨by omega, by decide⟩, hb1, show bix ([13, 10] : List UInt8) 1 = 10 from rfl]
      by_cases hc : d = 10
      ·rw [if_pos (by rw [hc]; rfl), if_pos hc]; rfl
      ·rw [if_neg (show ¬ (d.toNat : Int) = 10 from fun e => hc ((toNat_eq_iff d 10).1 e)), if_neg hc]
     simp only
     by_cases hd : d = 10
     ·rw [if_pos hd] at h1 ⊢
      refine whileO_next h1 (whileO_end ?_)
      unfold mewsref05.ends.body0
      simp only
      rw [if_neg (by omega)]
     ·rw [if_neg hd] at h1 ⊢
      exact whileO_end h1
   ·rw [if_neg hc] at h0 ⊢
    exact whileO_end h0
 unfold mewsref05.ends
 rw [hloop]
 cases crlfM t <;> rfl

def qP (s : List UInt8) (l : api.Limits) (out : List api.Request) (args : List (List UInt8)) (left : Int) (size : Nat) : parse.parser :=
 { in_ := { emptyIn with Args := args, Left := left, Size := (size : Int) }, s := s.drop size, l := l, out := out }
def freshP (s : List UInt8) (l : api.Limits) (out : List api.Request) : parse.parser := { in_ := emptyIn, s := s, l := l, out := out }

theorem many_go (s : List UInt8) (l : api.Limits) (hl : GoodL l) (hs : s.length ≤ 1000000) (out : List api.Request) : ∀ (n : Nat) (args : List (List UInt8)) (left : Int) (size : Nat), s.length - size ≤ n → size ≤ s.length → 0 < left → args.length ≤ size → PInv (qP s l out args left size) →
  (∃ args' size', mewsref05.many.loop0 s l ⟨args, left, (size : Int)⟩ = some (.inl (args', 0, ((size' : Nat) : Int))) ∧ size < size' ∧ size' ≤ s.length ∧ args' ≠ [] ∧
   runP (qP s l out args left size) = runP (freshP (s.drop size') l (out ++ [({ Args := args', Size := ((size' : Nat) : Int) } : api.Request)])) ∧ PInv (freshP (s.drop size') l (out ++ [({ Args := args', Size := ((size' : Nat) : Int) } : api.Request)]))) ∨
  (∃ in', mewsref05.many.loop0 s l ⟨args, left, (size : Int)⟩ = some (.inr (in', -1)) ∧ runP (qP s l out args left size) = { in_ := { in' with Rest := [] }, s := in'.Rest, l := l, out := out }) ∨
  (∃ in' e, mewsref05.many.loop0 s l ⟨args, left, (size : Int)⟩ = some (.inr (in', e)) ∧ e ≠ -1 ∧ e ≠ 0 ∧ runP (qP s l out args left size) = deadP (freshP s l out) e) := by
 have moreCase : ∀ (args : List (List UInt8)) (left : Int) (size : Nat), size ≤ s.length → 0 < left → hdrM (s.drop size) 36 l.Bulk.toNat 6 = .more →
   (∃ in', mewsref05.many.loop0 s l ⟨args, left, (size : Int)⟩ = some (.inr (in', -1)) ∧ runP (qP s l out args left size) = { in_ := { in' with Rest := [] }, s := in'.Rest, l := l, out := out }) := by
  intro args left size hsz hleft hh
  have hf := first_eq (s.drop size) 36 l.Bulk.toNat 6 (by have := hl.b; omega) (by simp; omega)
  rw [show ((36 : UInt8).toNat : Int) = 36 from rfl, show (l.Bulk.toNat : Int) = l.Bulk by have := hl.b; omega] at hf
  have hst : stepP (qP s l out args left size) = (match hdrM (s.drop size) 36 l.Bulk.toNat 6 with | .more => (false, qP s l out args left size) | .dead e => (false, deadP (qP s l out args left size) e) | .ok n k => (true, argHP (qP s l out args left size) n k)) := by
   unfold stepP
   rw [if_neg (by simp [qP]), if_pos (by exact hleft)]
   rfl
  rw [hh] at hst hf
  refine ⟨{ emptyIn with Rest := s.drop size, Args := args, Left := left, Size := (size : Int) }, ?_, ?_⟩
  ·unfold mewsref05.many.loop0
   apply whileO_end
   unfold mewsref05.many.body0
   simp only
   rw [if_pos hleft, need_eq ⟨by omega, by omega, by omega⟩, sub_all, Int.toNat_natCast, hf]
   simp only [Option.bind_some, hdrR]
   rw [if_neg (show ¬ (-1 : Int) = 0 by omega), need_eq ⟨by omega, by omega, by omega⟩]
  ·rw [runP_stop (by rw [hst]), hst]; rfl
 intro n
 induction n with
 | zero =>
  intro args left size hn hsz hleft hargs hinv
  have hd : s.drop size = [] := List.drop_of_length_le (by omega)
  exact .inr (.inl (moreCase args left size hsz hleft (by rw [hd]; rfl)))
 | succ n ih =>
  intro args left size hn hsz hleft hargs hinv
  obtain ⟨b1, b2⟩ := hl.b
  have hf := first_eq (s.drop size) 36 l.Bulk.toNat 6 (by omega) (by simp; omega)
  rw [show ((36 : UInt8).toNat : Int) = 36 from rfl, show (l.Bulk.toNat : Int) = l.Bulk by omega] at hf
  have hst : stepP (qP s l out args left size) = (match hdrM (s.drop size) 36 l.Bulk.toNat 6 with | .more => (false, qP s l out args left size) | .dead e => (false, deadP (qP s l out args left size) e) | .ok n k => (true, argHP (qP s l out args left size) n k)) := by
   unfold stepP
   rw [if_neg (by simp [qP]), if_pos (by exact hleft)]
   rfl
  cases hh : hdrM (s.drop size) 36 l.Bulk.toNat 6 with
  | more => exact .inr (.inl (moreCase args left size hsz hleft hh))
  | dead e =>
   rw [hh] at hst hf
   have he := hdrM_dead hh
   right; right
   refine ⟨{ emptyIn with Rest := s.drop size, Args := args, Left := left, Size := (size : Int) }, e, ?_, by omega, by omega, ?_⟩
   ·unfold mewsref05.many.loop0
    apply whileO_end
    unfold mewsref05.many.body0
    simp only
    rw [if_pos hleft, need_eq ⟨by omega, by omega, by omega⟩, sub_all, Int.toNat_natCast, hf]
    simp only [Option.bind_some, hdrR]
    rw [if_neg (by omega), need_eq ⟨by omega, by omega, by omega⟩]
   ·rw [runP_stop (by rw [hst]), hst]; rfl
  | ok m k =>
   rw [hh] at hst hf
   obtain ⟨k1, k2, k3⟩ := hdrM_ok hh
   simp only [List.length_drop] at k2
   have hs1 : (stepP (qP s l out args left size)).1 = true := by rw [hst]
   obtain ⟨inv1, _, _⟩ := stepP_ok hinv hs1
   have hrun1 := runP_next hinv hs1
   rw [hst] at inv1 hrun1
   simp only at inv1 hrun1
   have hdrop : (s.drop size).drop k = s.drop (size + k) := by rw [List.drop_drop]
   have hq1s : (argHP (qP s l out args left size) m k).s = s.drop (size + k) := hdrop
   have hq1n : needN (argHP (qP s l out args left size) m k) = m := by simp [needN, argHP]
   have hst1 : stepP (argHP (qP s l out args left size) m k) = (match crlfM ((s.drop (size + k)).drop m) with | .more => (false, argHP (qP s l out args left size) m k) | .dead => (false, deadP (argHP (qP s l out args left size) m k) 5) | .ok => (true, bodyP (argHP (qP s l out args left size) m k))) := by
    unfold stepP
    rw [if_pos (by simp [argHP]), hq1s, hq1n]
    rfl
   -- the reference's body as far as the end of the line
   have hrestlen : (s.drop (size + k)).length = s.length - (size + k) := by simp
   have hg : (
    if (m : Int) ≤ ((s.drop (size + k)).length : Int) then
     need (InR (m : Int) ((s.drop (size + k)).length : Int) (s.drop (size + k)).length) <|
     letO (sub (s.drop (size + k)) (m : Int) ((s.drop (size + k)).length : Int)) fun x308 =>
     (mewsref05.ends x308).bind fun r309 =>
     some r309
    else
     some (-1)) = some (match crlfM ((s.drop (size + k)).drop m) with | .more => -1 | .dead => 5 | .ok => 0) := by
    by_cases hm : (m : Int) ≤ ((s.drop (size + k)).length : Int)
    ·rw [if_pos hm, need_eq ⟨by omega, by omega, by omega⟩]
     simp only [letO]
     rw [sub_all, Int.toNat_natCast, ends_eq _ (by simp; omega)]
     rfl
    ·rw [if_neg hm, List.drop_of_length_le (by omega)]
     rfl
   have hbody : mewsref05.many.body0 s l ⟨args, left, (size : Int)⟩ = (match crlfM ((s.drop (size + k)).drop m) with
     | .more => some (.inr (.inr ({ emptyIn with Rest := s.drop (size + k), Args := args, Left := left, Size := ((size + k : Nat) : Int), Body := true, Need := (m : Int) }, -1)))
     | .dead => some (.inr (.inr ({ emptyIn with Rest := s.drop (size + k), Args := args, Left := left, Size := ((size + k : Nat) : Int), Body := true, Need := (m : Int) }, 5)))
     | .ok => some (.inl ⟨args ++ [(s.drop (size + k)).take m], left - 1, ((size + k + (m + 2) : Nat) : Int)⟩)) := by
    unfold mewsref05.many.body0
    simp only
    rw [if_pos hleft, need_eq ⟨by omega, by omega, by omega⟩, sub_all, Int.toNat_natCast, hf]
    simp only [Option.bind_some, hdrR, if_true]
    rw [i64w (n := (size : Int) + k) (by omega) (by omega), show (size : Int) + (k : Int) = ((size + k : Nat) : Int) by omega, need_eq ⟨by omega, by omega, by omega⟩, sub_all, Int.toNat_natCast, hg]
    simp only [Option.bind_some]
    have hleft2 := hinv.left.2
    have hleft3 : left ≤ 65536 := hleft2
    cases hc : crlfM ((s.drop (size + k)).drop m) with
    | more => rfl
    | dead => rfl
    | ok =>
     have hk2 := crlf_len hc
     simp only [if_true]
     rw [need_eq ⟨by omega, by omega, by omega⟩]
     simp only [letO]
     rw [sub_zero, Int.toNat_natCast, need_eq (by simp only [List.length_singleton]; omega), i64w (n := left - 1) (by omega) (by omega), i64w (n := (m : Int) + 2) (by omega) (by omega), i64w (by omega) (by omega),
      show ((size + k : Nat) : Int) + ((m : Int) + 2) = ((size + k + (m + 2) : Nat) : Int) by omega]
   cases hc : crlfM ((s.drop (size + k)).drop m) with
   | more =>
    rw [hc] at hst1 hbody
    right; left
    refine ⟨_, whileO_end hbody, ?_⟩
    rw [hrun1, runP_stop (by rw [hst1]), hst1]
    show ({ in_ := _, s := (s.drop size).drop k, l := l, out := out } : parse.parser) = _
    rw [hdrop]
    show ({ in_ := { emptyIn with Args := args, Left := left, Size := (size : Int) + (k : Int), Body := true, Need := (m : Int) }, s := s.drop (size + k), l := l, out := out } : parse.parser) = _
    rw [show (size : Int) + (k : Int) = ((size + k : Nat) : Int) by omega]
   | dead =>
    rw [hc] at hst1 hbody
    right; right
    refine ⟨_, 5, whileO_end hbody, by omega, by omega, ?_⟩
    rw [hrun1, runP_stop (by rw [hst1]), hst1]
    rfl
   | ok =>
    rw [hc] at hst1 hbody
    have hk2 := crlf_len hc
    have hs2 : (stepP (argHP (qP s l out args left size) m k)).1 = true := by rw [hst1]
    obtain ⟨inv2, _, _⟩ := stepP_ok inv1 hs2
    have hrun2 := runP_next inv1 hs2
    rw [hst1] at inv2 hrun2
    simp only at inv2 hrun2
    have hbp : bodyP (argHP (qP s l out args left size) m k) = if left - 1 = 0 then freshP (s.drop (size + k + (m + 2))) l (out ++ [({ Args := args ++ [(s.drop (size + k)).take m], Size := ((size + k + (m + 2) : Nat) : Int) } : api.Request)]) else qP s l out (args ++ [(s.drop (size + k)).take m]) (left - 1) (size + k + (m + 2)) := by
     unfold bodyP
     rw [hq1n, hq1s, List.drop_drop]
     show (if left - 1 = 0 then _ else _) = _
     have e1 : (argHP (qP s l out args left size) m k).in_.Size + ((m + 2 : Nat) : Int) = ((size + k + (m + 2) : Nat) : Int) := by
      show (size : Int) + (k : Int) + ((m + 2 : Nat) : Int) = _
      omega
     rw [e1]
     rfl
    rw [hbp] at inv2 hrun2
    by_cases hz : left - 1 = 0
    ·rw [if_pos hz] at inv2 hrun2
     left
     refine ⟨args ++ [(s.drop (size + k)).take m], size + k + (m + 2), ?_, by omega, by omega, by simp, hrun1.trans hrun2, inv2⟩
     refine whileO_next hbody (whileO_end ?_)
     unfold mewsref05.many.body0
     simp only
     rw [if_neg (by omega), hz]
    ·rw [if_neg hz] at inv2 hrun2
     have := ih (args ++ [(s.drop (size + k)).take m]) (left - 1) (size + k + (m + 2)) (by omega) (by omega) (by omega) (by simp; omega) inv2
     rcases this with ⟨args', size', h1, h2, h3, h4, h5, h6⟩ | ⟨in', h1, h2⟩ | ⟨in', e, h1, h2, h3, h4⟩
     ·left
      exact ⟨args', size', whileO_next hbody h1, by omega, h3, h4, (hrun1.trans hrun2).trans h5, h6⟩
     ·right; left
      exact ⟨in', whileO_next hbody h1, (hrun1.trans hrun2).trans h2⟩
     ·right; right
      exact ⟨in', e, whileO_next hbody h1, h2, h3, (hrun1.trans hrun2).trans h4⟩

/-- What is told of all that came. -/
noncomputable def allOf (p : parse.parser) : api.Input × List api.Request := ({ p.in_ with Rest := p.s }, p.out)

theorem All_go (l : api.Limits) (hl : GoodL l) : ∀ (n : Nat) (s : List UInt8) (out : List api.Request), s.length ≤ n → s.length ≤ 1000000 → PInv (freshP s l out) →
  ((mewsref05.All.loop0 l ⟨s, out⟩).bind fun s368 => onSum s368 (fun s276 =>
  some (emptyIn, s276)) fun s368x => some s368x) = some (allOf (runP (freshP s l out))) := by
 intro n
 induction n with
 | zero =>
  intro s out hn hs hinv
  have : s = [] := List.length_eq_zero_iff.1 (by omega)
  subst this
  have hst : stepP (freshP [] l out) = (false, freshP [] l out) := rfl
  rw [runP_stop (by rw [hst]), hst]
  have hloop : mewsref05.All.loop0 l ⟨[], out⟩ = some (.inl out) := whileO_end rfl
  rw [hloop]
  rfl
 | succ n ih =>
  intro s out hn hs hinv
  cases hse : s with
  | nil =>
   have hst : stepP (freshP [] l out) = (false, freshP [] l out) := rfl
   rw [runP_stop (by rw [hst]), hst]
   have hloop : mewsref05.All.loop0 l ⟨[], out⟩ = some (.inl out) := whileO_end rfl
   rw [hloop]
   rfl
  | cons c t =>
   rw [← hse]
   obtain ⟨a1, a2⟩ := hl.a
   have hlp : s.length = t.length + 1 := by rw [hse]; simp
   have hne : s ≠ [] := by rw [hse]; simp
   have hb : bix s 0 = (c.toNat : Int) := by rw [hse]; simpa using bix_app [] t c
   have ho := hinv.out
   have ho' : out.length + s.length ≤ 100000000 := ho
   -- how the loop goes on from what one or many tells
   have hfin : ∀ (in' : api.Input) (e : Int), (need (InB 0 s.length) (if bix s 0 = 42 then (mewsref05.many s l).bind fun r350 => some (r350.2, r350.1.Rest, r350.1.Args, r350.1.Left, r350.1.Size, r350.1.Body, r350.1.Need, r350.1.Dead) else (mewsref05.one s l).bind fun r351 => some (r351.2, r351.1.Rest, r351.1.Args, r351.1.Left, r351.1.Size, r351.1.Body, r351.1.Need, r351.1.Dead)) = some (e, in'.Rest, in'.Args, in'.Left, in'.Size, in'.Body, in'.Need, in'.Dead)) →
     (e = -1 → ((mewsref05.All.loop0 l ⟨s, out⟩).bind fun s368 => onSum s368 (fun s276 => some (emptyIn, s276)) fun s368x => some s368x) = some (in', out)) ∧
     (e ≠ -1 → e ≠ 0 → ((mewsref05.All.loop0 l ⟨s, out⟩).bind fun s368 => onSum s368 (fun s276 => some (emptyIn, s276)) fun s368x => some s368x) = some ({ emptyIn with Dead := e }, out)) ∧
     (∀ k : Nat, e = 0 → in'.Size = (k : Int) → 1 ≤ k → k ≤ s.length → PInv (freshP (s.drop k) l (if in'.Args ≠ [] then out ++ [({ Args := in'.Args, Size := in'.Size } : api.Request)] else out)) →
      ((mewsref05.All.loop0 l ⟨s, out⟩).bind fun s368 => onSum s368 (fun s276 => some (emptyIn, s276)) fun s368x => some s368x) = some (allOf (runP (freshP (s.drop k) l (if in'.Args ≠ [] then out ++ [({ Args := in'.Args, Size := in'.Size } : api.Request)] else out))))) := by
    intro in' e he
    refine ⟨fun h => ?_, fun h1 h2 => ?_, fun k h0 hk hk1 hk2 hinv' => ?_⟩
    ·have hloop : mewsref05.All.loop0 l ⟨s, out⟩ = some (.inr (in', out)) := by
      unfold mewsref05.All.loop0
      apply whileO_end
      unfold mewsref05.All.body0
      simp only
      rw [if_neg hne, he]
      simp only [Option.bind_some]
      rw [if_pos h]
     rw [hloop]; rfl
    ·have hloop : mewsref05.All.loop0 l ⟨s, out⟩ = some (.inr ({ emptyIn with Dead := e }, out)) := by
      unfold mewsref05.All.loop0
      apply whileO_end
      unfold mewsref05.All.body0
      simp only
      rw [if_neg hne, he]
      simp only [Option.bind_some]
      rw [if_neg h1, if_neg h2]
     rw [hloop]; rfl
    ·have hbody : mewsref05.All.body0 l ⟨s, out⟩ = some (.inl ⟨s.drop k, if in'.Args ≠ [] then out ++ [({ Args := in'.Args, Size := in'.Size } : api.Request)] else out⟩) := by
      unfold mewsref05.All.body0
      simp only
      rw [if_neg hne, he]
      simp only [Option.bind_some]
      rw [if_neg (by omega), if_pos h0, hk]
      have e3 : (if 0 < (in'.Args.length : Int) then need ((out.length + [({ Args := in'.Args, Size := (k : Int) } : api.Request)].length) * 32 ≤ 140737488355328) (some (out ++ [({ Args := in'.Args, Size := (k : Int) } : api.Request)])) else some out) = some (if in'.Args ≠ [] then out ++ [({ Args := in'.Args, Size := (k : Int) } : api.Request)] else out) := by
       cases in'.Args with
       | nil => rfl
       | cons a as => rw [if_pos (by simp), need_eq (by simp only [List.length_singleton]; omega), if_pos (by simp)]
      rw [e3]
      simp only [Option.bind_some]
      rw [need_eq ⟨by omega, by omega, by omega⟩, sub_all, Int.toNat_natCast]
     have := ih (s.drop k) _ (by simp; omega) (by simp; omega) hinv'
     rw [← this]
     cases hq : mewsref05.All.loop0 l ⟨s.drop k, if in'.Args ≠ [] then out ++ [({ Args := in'.Args, Size := in'.Size } : api.Request)] else out⟩ with
     | none => rw [hq] at this; cases this
     | some q =>
      have h2 : mewsref05.All.loop0 l ⟨s, out⟩ = some q := whileO_next hbody hq
      rw [h2]
   have hstep : stepP (freshP s l out) = if c = 42 then (match hdrM s 42 l.Args.toNat 7 with | .more => (false, freshP s l out) | .dead e => (false, deadP (freshP s l out) e) | .ok n k => (true, manyHP (freshP s l out) n k)) else lineP (lineM s l) (freshP s l out) := by
    unfold stepP
    rw [if_neg (by simp [freshP]), if_neg (by show ¬ (0 : Int) < 0; omega)]
    show (match s with | [] => _ | c :: _ => _) = _
    rw [hse]
    rfl
   by_cases h42 : c = 42
   ·rw [if_pos h42] at hstep
    have hf := first_eq s 42 l.Args.toNat 7 (by omega) (by omega)
    rw [show ((42 : UInt8).toNat : Int) = 42 from rfl, show (l.Args.toNat : Int) = l.Args by omega] at hf
    have hpre : ∀ (in' : api.Input) (e : Int), mewsref05.many s l = some (in', e) → (need (InB 0 s.length) (if bix s 0 = 42 then (mewsref05.many s l).bind fun r350 => some (r350.2, r350.1.Rest, r350.1.Args, r350.1.Left, r350.1.Size, r350.1.Body, r350.1.Need, r350.1.Dead) else (mewsref05.one s l).bind fun r351 => some (r351.2, r351.1.Rest, r351.1.Args, r351.1.Left, r351.1.Size, r351.1.Body, r351.1.Need, r351.1.Dead)) = some (e, in'.Rest, in'.Args, in'.Left, in'.Size, in'.Body, in'.Need, in'.Dead)) := by
     intro in' e he
     rw [need_eq ⟨by omega, by omega⟩, hb, if_pos (by rw [h42]; rfl), he]; rfl
    cases hh : hdrM s 42 l.Args.toNat 7 with
    | more =>
     rw [hh] at hstep hf
     have hm : mewsref05.many s l = some ({ emptyIn with Rest := s }, -1) := by
      unfold mewsref05.many
      rw [hf]; rfl
     rw [(hfin _ _ (hpre _ _ hm)).1 rfl, runP_stop (by rw [hstep]), hstep]
     rfl
    | dead e =>
     rw [hh] at hstep hf
     have hee := hdrM_dead hh
     have hm : mewsref05.many s l = some ({ emptyIn with Rest := s }, e) := by
      unfold mewsref05.many
      rw [hf]
      simp only [Option.bind_some, hdrR]
      rw [if_neg (by omega)]
     rw [(hfin _ _ (hpre _ _ hm)).2.1 (by omega) (by omega), runP_stop (by rw [hstep]), hstep]
     rfl
    | ok m k =>
     rw [hh] at hstep hf
     obtain ⟨k1, k2, k3⟩ := hdrM_ok hh
     have hs1 : (stepP (freshP s l out)).1 = true := by rw [hstep]
     obtain ⟨inv1, _, _⟩ := stepP_ok hinv hs1
     have hrun1 := runP_next hinv hs1
     rw [hstep] at inv1 hrun1
     simp only at inv1 hrun1
     have hmany : ∀ x, mewsref05.many.loop0 s l ⟨[], (m : Int), (k : Int)⟩ = some x → mewsref05.many s l = onSum x (fun s240 => some ({ emptyIn with Args := s240.1, Left := s240.2.1, Size := s240.2.2 }, 0)) fun s319x => some s319x := by
      intro x hx
      unfold mewsref05.many
      rw [hf]
      simp only [Option.bind_some, hdrR, if_true]
      rw [hx]; rfl
     by_cases hm0 : m = 0
     ·have e1 : manyHP (freshP s l out) m k = freshP (s.drop k) l out := by
       unfold manyHP; rw [if_pos hm0]; rfl
      rw [e1] at inv1 hrun1
      have hx : mewsref05.many.loop0 s l ⟨[], (m : Int), (k : Int)⟩ = some (.inl ([], 0, (k : Int))) := by
       unfold mewsref05.many.loop0
       apply whileO_end
       unfold mewsref05.many.body0
       simp only
       rw [if_neg (by omega), hm0]; rfl
      have := (hfin _ _ (hpre _ _ (hmany _ hx))).2.2 k rfl rfl (by omega) k2 inv1
      rw [this, hrun1]
      rfl
     ·have e1 : manyHP (freshP s l out) m k = qP s l out [] (m : Int) k := by
       unfold manyHP
       rw [if_neg hm0]
       show ({ in_ := { emptyIn with Left := (m : Int), Size := (0 : Int) + (k : Int) }, s := s.drop k, l := l, out := out } : parse.parser) = _
       rw [Int.zero_add]; rfl
      rw [e1] at inv1 hrun1
      have := many_go s l hl hs out s.length [] (m : Int) k (by omega) k2 (by omega) (by simp) inv1
      rcases this with ⟨args', size', h1, h2, h3, h4, h5, h6⟩ | ⟨in', h1, h2⟩ | ⟨in', e, h1, h2, h3, h4⟩
      ·have h7 := (hfin _ _ (hpre _ _ (hmany _ h1))).2.2 size' rfl rfl (by omega) h3
       simp only [if_pos h4] at h7
       rw [h7 h6, hrun1, h5]
      ·rw [(hfin _ _ (hpre _ _ (hmany _ h1))).1 rfl, hrun1, h2]
       rfl
      ·rw [(hfin _ _ (hpre _ _ (hmany _ h1))).2.1 h2 h3, hrun1, h4]
       rfl
   ·rw [if_neg h42] at hstep
    have hone := rOne_eq s l hl (by omega)
    have hpre : ∀ (in' : api.Input) (e : Int), mewsref05.one s l = some (in', e) → (need (InB 0 s.length) (if bix s 0 = 42 then (mewsref05.many s l).bind fun r350 => some (r350.2, r350.1.Rest, r350.1.Args, r350.1.Left, r350.1.Size, r350.1.Body, r350.1.Need, r350.1.Dead) else (mewsref05.one s l).bind fun r351 => some (r351.2, r351.1.Rest, r351.1.Args, r351.1.Left, r351.1.Size, r351.1.Body, r351.1.Need, r351.1.Dead)) = some (e, in'.Rest, in'.Args, in'.Left, in'.Size, in'.Body, in'.Need, in'.Dead)) := by
     intro in' e he
     rw [need_eq ⟨by omega, by omega⟩, hb, if_neg (show ¬ (c.toNat : Int) = 42 from fun e => h42 ((toNat_eq_iff c 42).1 e)), he]; rfl
    cases hh : lineM s l with
    | more =>
     rw [hh] at hstep hone
     rw [(hfin _ _ (hpre _ _ hone)).1 rfl, runP_stop (by rw [hstep]; rfl), hstep]
     rfl
    | dead e =>
     rw [hh] at hstep hone
     have hee := lineM_dead hh
     rw [(hfin _ _ (hpre _ _ hone)).2.1 (by omega) (by omega), runP_stop (by rw [hstep]; rfl), hstep]
     rfl
    | ok args k =>
     rw [hh] at hstep hone
     obtain ⟨k1, k2, k3⟩ := lineM_ok hh
     have hs1 : (stepP (freshP s l out)).1 = true := by rw [hstep]; rfl
     obtain ⟨inv1, _, _⟩ := stepP_ok hinv hs1
     have hrun1 := runP_next hinv hs1
     rw [hstep] at inv1 hrun1
     have e1 : (lineP (LR.ok args k) (freshP s l out)).2 = freshP (s.drop (k + 1)) l (if args ≠ [] then out ++ [({ Args := args, Size := (k : Int) + 1 } : api.Request)] else out) := by
      show ({ in_ := emptyIn, s := s.drop (k + 1), l := l, out := if args ≠ [] then out ++ [({ Args := args, Size := (0 : Int) + ((k + 1 : Nat) : Int) } : api.Request)] else out } : parse.parser) = _
      rw [show (0 : Int) + ((k + 1 : Nat) : Int) = (k : Int) + 1 by omega]; rfl
     rw [e1] at inv1 hrun1
     have := (hfin _ _ (hpre _ _ hone)).2.2 (k + 1) rfl (by show (k : Int) + 1 = _; omega) (by omega) (by omega) inv1
     rw [this, hrun1]

theorem All_eq (s : List UInt8) (l : api.Limits) (hs : s.length ≤ 1000000) : mewsref05.All s l = some (allOf (runP (startP emptyIn s l))) := by
 unfold mewsref05.All
 rw [rLimits_eq]
 simp only [Option.bind_some]
 exact All_go (limM l) (limM_good l) s.length s [] (Nat.le_refl _) hs (start_inv s l (by omega))

end Go.Pu
