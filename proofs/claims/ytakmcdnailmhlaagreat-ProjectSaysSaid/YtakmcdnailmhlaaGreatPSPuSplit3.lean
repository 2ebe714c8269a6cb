import Derived.Test.YtakmcdnailmhlaaGreatPSPuSplit2
set_option maxRecDepth 100000
namespace Go.Pu
open Go.Lift

noncomputable def rfin (x : ((List (List UInt8)) × Int × Bool × (List UInt8)) ⊕ ((List (List UInt8)) × Bool)) : Option ((List (List UInt8)) × Bool) :=
 onSum x (fun s2432 =>
  if s2432.2.1 = 0 then
   (
    if s2432.2.2.1 = true then
     need ((s2432.1.length + [s2432.2.2.2].length) * 16 ≤ 140737488355328) <|
     some (s2432.1 ++ [s2432.2.2.2])
    else
     some s2432.1).bind fun s3246 =>
   some (s3246, true)
  else
   some (([] : List (List UInt8)), false)) fun s3254x => some s3254x

def RRes (s : List UInt8) (st : mewsref04.Split.S0) (r : (List (List UInt8)) × Bool) : Prop := (mewsref04.Split.loop0 s st).bind rfin = some r

theorem RRes.next {s : List UInt8} {st st' : mewsref04.Split.S0} {r} (h : mewsref04.Split.body0 s st = some (.inl st')) (h2 : RRes s st' r) : RRes s st r := by
 unfold RRes at *
 cases hq : mewsref04.Split.loop0 s st' with
 | none => rw [hq] at h2; cases h2
 | some q =>
  rw [hq] at h2
  have : mewsref04.Split.loop0 s st = some q := whileO_next h hq
  rw [this]; exact h2
theorem RRes.stop {s : List UInt8} {st : mewsref04.Split.S0} {x r} (h : mewsref04.Split.body0 s st = some (.inr x)) (h2 : rfin x = some r) : RRes s st r := by
 unfold RRes
 have : mewsref04.Split.loop0 s st = some x := whileO_end h
 rw [this]; exact h2

theorem gap_eq (c : UInt8) : (if (c.toNat : Int) = 32 then true else decide ((c.toNat : Int) = 9)) = blankB c := by
 revert c; apply fin_byte; decide +kernel

theorem sub_ps {s t : List UInt8} {c : UInt8} (h : Sfx s (c :: t)) : sub s (ps s (c :: t) : Int) ((ps s (c :: t) : Int) + 1) = [c] := by
 obtain ⟨p, rfl⟩ := h
 have : ps (p ++ c :: t) (c :: t) = p.length := by unfold ps; simp
 rw [this, sub_one (by simp)]; simp

/-- At the end. -/
theorem R_end {s : List UInt8} {out : List (List UInt8)} {q : Int} {op cl : Bool} {now : List UInt8} (hs : s.length ≤ 1000000000) (ho : out.length ≤ 1000000000) :
  RRes s ⟨out, q, op, cl, now, (ps s [] : Int)⟩ (if q = 0 then (if op = true then out ++ [now] else out, true) else ([], false)) := by
 refine RRes.stop (x := .inl (out, q, op, now)) ?_ ?_
 ·unfold mewsref04.Split.body0
  simp only
  rw [ps_nil, if_neg (by omega)]
 ·unfold rfin onSum
  simp only
  by_cases hq : q = 0
  ·rw [if_pos hq, if_pos hq]
   cases op with
   | true => rw [if_pos rfl, need_eq (by simp only [List.length_singleton]; omega)]; rfl
   | false => rfl
  ·rw [if_neg hq, if_neg hq]

/-- A byte outside of quotes. -/
theorem R_gap {s t : List UInt8} {c : UInt8} {out : List (List UInt8)} {op cl : Bool} {now : List UInt8} (hs : s.length ≤ 1000000000) (ho : out.length ≤ 1000000000) (h : Sfx s (c :: t)) (hb : blankB c = true) {r}
  (h2 : RRes s ⟨if op = true then out ++ [now] else out, 0, false, false, [], (ps s t : Int)⟩ r) : RRes s ⟨out, 0, op, cl, now, (ps s (c :: t) : Int)⟩ r := by
 obtain ⟨p1, p2⟩ := h.ps_cons
 refine RRes.next ?_ h2
 unfold mewsref04.Split.body0
 simp only [letO]
 rw [if_pos (by omega), need_eq ⟨by omega, by omega⟩, h.bix, gap_eq, hb]
 have e1 : (if cl = true then !true else false) = false := by cases cl <;> rfl
 rw [e1]
 simp only [Bool.false_eq_true, if_false, if_true]
 have e2 : (if op = true then need ((out.length + [now].length) * 16 ≤ 140737488355328) (some (out ++ [now])) else some out) = some (if op = true then out ++ [now] else out) := by
  cases op with
  | true => rw [if_pos rfl, if_pos rfl, need_eq (by simp only [List.length_singleton]; omega)]
  | false => rfl
 rw [e2]
 simp only [Option.bind_some, onSum]
 rw [i64w (by omega) (by omega), show (ps s (c :: t) : Int) + 1 = (ps s t : Int) by omega]

theorem R_open {s t : List UInt8} {c : UInt8} {out : List (List UInt8)} {op : Bool} {now : List UInt8} (hs : s.length ≤ 1000000000) (h : Sfx s (c :: t)) (hb : ¬ blankB c = true) (hq : c = 34 ∨ c = 39) {r}
  (h2 : RRes s ⟨out, (c.toNat : Int), true, false, now, (ps s t : Int)⟩ r) : RRes s ⟨out, 0, op, false, now, (ps s (c :: t) : Int)⟩ r := by
 obtain ⟨p1, p2⟩ := h.ps_cons
 refine RRes.next ?_ h2
 unfold mewsref04.Split.body0
 simp only [letO]
 rw [if_pos (by omega), need_eq ⟨by omega, by omega⟩, h.bix, gap_eq, show blankB c = false by simpa using hb]
 simp only [Bool.false_eq_true, if_false, if_true]
 have e1 : (if (c.toNat : Int) = 34 then true else decide ((c.toNat : Int) = 39)) = true := by
  rcases hq with rfl | rfl <;> rfl
 rw [e1]
 simp only [if_true, Option.bind_some, onSum]
 rw [i64w (by omega) (by omega), show (ps s (c :: t) : Int) + 1 = (ps s t : Int) by omega]

theorem R_plain {s t : List UInt8} {c : UInt8} {out : List (List UInt8)} {op : Bool} {now : List UInt8} (hs : s.length ≤ 1000000000) (hn : now.length ≤ 1000000000) (h : Sfx s (c :: t)) (hb : ¬ blankB c = true) (hq : c ≠ 34 ∧ c ≠ 39) {r}
  (h2 : RRes s ⟨out, 0, true, false, now ++ [c], (ps s t : Int)⟩ r) : RRes s ⟨out, 0, op, false, now, (ps s (c :: t) : Int)⟩ r := by
 obtain ⟨p1, p2⟩ := h.ps_cons
 refine RRes.next ?_ h2
 unfold mewsref04.Split.body0
 simp only [letO]
 rw [if_pos (by omega), need_eq ⟨by omega, by omega⟩, h.bix, gap_eq, show blankB c = false by simpa using hb]
 simp only [Bool.false_eq_true, if_false, if_true]
 have e1 : (if (c.toNat : Int) = 34 then true else decide ((c.toNat : Int) = 39)) = false := by
  rw [if_neg (show ¬ (c.toNat : Int) = 34 from fun e => hq.1 ((toNat_eq_iff c 34).1 e)), decide_eq_false (show ¬ (c.toNat : Int) = 39 from fun e => hq.2 ((toNat_eq_iff c 39).1 e))]
 rw [e1]
 simp only [Bool.false_eq_true, if_false]
 rw [i64w (n := (ps s (c :: t) : Int) + 1) (by omega) (by omega), need_eq ⟨by omega, by omega, by omega⟩, sub_ps h, need_eq (by simp only [List.length_singleton]; omega)]
 simp only [Option.bind_some, onSum]
 rw [show (ps s (c :: t) : Int) + 1 = (ps s t : Int) by omega, i64w (by omega) (by omega)]

/-- Behind quotes there is no byte but a gap. -/
theorem R_behind {s t : List UInt8} {c : UInt8} {out : List (List UInt8)} {op : Bool} {q : Int} {now : List UInt8} (hs : s.length ≤ 1000000000) (h : Sfx s (c :: t)) (hb : ¬ blankB c = true) :
  RRes s ⟨out, q, op, true, now, (ps s (c :: t) : Int)⟩ ([], false) := by
 obtain ⟨p1, p2⟩ := h.ps_cons
 refine RRes.stop (x := .inr ([], false)) ?_ rfl
 unfold mewsref04.Split.body0
 simp only [letO]
 rw [if_pos (by omega), need_eq ⟨by omega, by omega⟩, h.bix, gap_eq, show blankB c = false by simpa using hb]
 rfl

/-- The three ways within quotes; the mark is 34 or 39. -/
theorem R_quotes {s : List UInt8} (hs : s.length ≤ 1000000000) {mark : UInt8} (hmark : mark = 34 ∨ mark = 39) (out : List (List UInt8)) (ho : out.length ≤ 1000000000) :
  ∀ (n : Nat) (t now : List UInt8), t.length ≤ n → Sfx s t → now.length + t.length ≤ 1000000000 →
   match qM mark t now with
   | none => RRes s ⟨out, (mark.toNat : Int), true, false, now, (ps s t : Int)⟩ ([], false)
   | some q => ∀ r, RRes s ⟨out, 0, true, true, q.1, (ps s q.2 : Int)⟩ r → RRes s ⟨out, (mark.toNat : Int), true, false, now, (ps s t : Int)⟩ r
 | n, [], now, _, h, hb => by
  rw [qM_nil]
  have := R_end (s := s) (out := out) (q := (mark.toNat : Int)) (op := true) (cl := false) (now := now) hs ho
  rwa [if_neg (by rcases hmark with rfl | rfl <;> decide)] at this
 | 0, c :: t, now, hn, _, _ => by simp at hn
 | n + 1, c :: t, now, hn, h, hb => by
  obtain ⟨p1, p2⟩ := h.ps_cons
  simp only [List.length_cons] at hn hb
  have hm0 : ¬ (mark.toNat : Int) = 0 := by rcases hmark with rfl | rfl <;> decide
  -- the body within quotes
  have hbody : ∀ {X}, ((if (c.toNat : Int) = (mark.toNat : Int) then
        some (.inl (out, 0, true, true, now, (ps s (c :: t) : Int)))
       else
        (
         if (c.toNat : Int) = 92 then
          if (mark.toNat : Int) = 34 then
           if (IntKind.wrap .i64 ((ps s (c :: t) : Int) + 3)) < (s.length : Int) then
            need (InB (IntKind.wrap .i64 ((ps s (c :: t) : Int) + 1)) s.length) <|
            if (bix s (IntKind.wrap .i64 ((ps s (c :: t) : Int) + 1))) = 120 then
             need (InB (IntKind.wrap .i64 ((ps s (c :: t) : Int) + 2)) s.length) <|
             (mewsref04.digit (bix s (IntKind.wrap .i64 ((ps s (c :: t) : Int) + 2)))).bind fun r3195 =>
             if r3195 < 16 then
              need (InB (IntKind.wrap .i64 ((ps s (c :: t) : Int) + 3)) s.length) <|
              (mewsref04.digit (bix s (IntKind.wrap .i64 ((ps s (c :: t) : Int) + 3)))).bind fun r3198 =>
              some (decide (r3198 < 16))
             else
              some false
            else
             some false
           else
            some false
          else
           some false
         else
          some false).bind fun s3186 =>
        if s3186 = true then
         need (InB (IntKind.wrap .i64 ((ps s (c :: t) : Int) + 2)) s.length) <|
         (mewsref04.digit (bix s (IntKind.wrap .i64 ((ps s (c :: t) : Int) + 2)))).bind fun r3200 =>
         need (InB (IntKind.wrap .i64 ((ps s (c :: t) : Int) + 3)) s.length) <|
         (mewsref04.digit (bix s (IntKind.wrap .i64 ((ps s (c :: t) : Int) + 3)))).bind fun r3202 =>
         need (IsU8 (IntKind.wrap .u8 (IntKind.wrap .i64 ((IntKind.wrap .i64 (16 * r3200)) + r3202)))) <|
         need (now.length + [u8 (IntKind.wrap .u8 (IntKind.wrap .i64 ((IntKind.wrap .i64 (16 * r3200)) + r3202)))].length ≤ 9223372036854775807) <|
         some (.inl (out, (mark.toNat : Int), true, false, now ++ [u8 (IntKind.wrap .u8 (IntKind.wrap .i64 ((IntKind.wrap .i64 (16 * r3200)) + r3202)))], IntKind.wrap .i64 ((ps s (c :: t) : Int) + 3)))
        else
         if (if (c.toNat : Int) = 92 then
           if (mark.toNat : Int) = 34 then
            decide ((IntKind.wrap .i64 ((ps s (c :: t) : Int) + 1)) < (s.length : Int))
           else
            false
          else
           false) = true then
          need (InB (IntKind.wrap .i64 ((ps s (c :: t) : Int) + 1)) s.length) <|
          (mewsref04.turned (bix s (IntKind.wrap .i64 ((ps s (c :: t) : Int) + 1)))).bind fun r3214 =>
          need (IsU8 r3214) <|
          need (now.length + [u8 r3214].length ≤ 9223372036854775807) <|
          some (.inl (out, (mark.toNat : Int), true, false, now ++ [u8 r3214], IntKind.wrap .i64 ((ps s (c :: t) : Int) + 1)))
         else
          (
           if (c.toNat : Int) = 92 then
            if (mark.toNat : Int) = 39 then
             if (IntKind.wrap .i64 ((ps s (c :: t) : Int) + 1)) < (s.length : Int) then
              need (InB (IntKind.wrap .i64 ((ps s (c :: t) : Int) + 1)) s.length) <|
              some (decide ((bix s (IntKind.wrap .i64 ((ps s (c :: t) : Int) + 1))) = 39))
             else
              some false
            else
             some false
           else
            some false).bind fun s3221 =>
          if s3221 = true then
           need (now.length + [39].length ≤ 9223372036854775807) <|
           some (.inl (out, (mark.toNat : Int), true, false, now ++ [39], IntKind.wrap .i64 ((ps s (c :: t) : Int) + 1)))
          else
           need (InR (ps s (c :: t) : Int) (IntKind.wrap .i64 ((ps s (c :: t) : Int) + 1)) s.length) <|
           need (now.length + (sub s (ps s (c :: t) : Int) (IntKind.wrap .i64 ((ps s (c :: t) : Int) + 1))).length ≤ 9223372036854775807) <|
           some (.inl (out, (mark.toNat : Int), true, false, now ++ (sub s (ps s (c :: t) : Int) (IntKind.wrap .i64 ((ps s (c :: t) : Int) + 1))), (ps s (c :: t) : Int)))) : Option (((List (List UInt8)) × Int × Bool × Bool × (List UInt8) × Int) ⊕ (mewsref04.Split.S0 ⊕ (((List (List UInt8)) × Int × Bool × (List UInt8)) ⊕ ((List (List UInt8)) × Bool))))) = some (.inl X) →
    mewsref04.Split.body0 s ⟨out, (mark.toNat : Int), true, false, now, (ps s (c :: t) : Int)⟩ = some (.inl ⟨X.1, X.2.1, X.2.2.1, X.2.2.2.1, X.2.2.2.2.1, IntKind.wrap .i64 (X.2.2.2.2.2 + 1)⟩) := by
   intro X hX
   unfold mewsref04.Split.body0
   simp only [letO]
   rw [if_pos (by omega), need_eq ⟨by omega, by omega⟩, h.bix]
   simp only [Bool.false_eq_true, if_false, if_neg hm0]
   rw [hX]
   rfl
  have hne : ∀ {d : UInt8} {k : Int}, ¬ c = d → k = (d.toNat : Int) → ¬ (c.toNat : Int) = k := fun h1 h2 h3 => h1 ((toNat_eq_iff _ _).1 (h3.trans h2))
  have hw1 : IntKind.wrap .i64 ((ps s (c :: t) : Int) + 1) = (ps s t : Int) := by rw [i64w (by omega) (by omega)]; omega
  have hw2 : IntKind.wrap .i64 ((ps s (c :: t) : Int) + 2) = (ps s (c :: t) : Int) + 2 := i64w (by omega) (by omega)
  have hw3 : IntKind.wrap .i64 ((ps s (c :: t) : Int) + 3) = (ps s (c :: t) : Int) + 3 := i64w (by omega) (by omega)
  rw [hw1, hw2, hw3] at hbody
  rw [qM_cons]
  by_cases h1 : c = mark
  ·rw [if_pos h1]
   have hstep := hbody (X := (out, 0, true, true, now, (ps s (c :: t) : Int))) (by rw [if_pos (by rw [h1])])
   simp only at hstep
   rw [hw1] at hstep
   by_cases h2 : endsB t = true
   ·rw [if_pos h2]
    exact fun r hr => RRes.next hstep hr
   ·rw [if_neg h2]
    cases t with
    | nil => exact absurd rfl h2
    | cons d t => exact RRes.next hstep (R_behind hs h.tail h2)
  ·rw [if_neg h1]
   have hcm : ¬ (c.toNat : Int) = (mark.toNat : Int) := fun e => h1 ((toNat_eq_iff c mark).1 e)
   rw [if_neg hcm] at hbody
   by_cases h2 : c = 92 ∧ mark = 34 ∧ t ≠ []
   ·rw [if_pos h2]
    obtain ⟨g1, g2, g3⟩ := turnM_sfx (t := t)
    have g3 := g3 h2.2.2
    have ih := R_quotes hs hmark out ho n (turnM t).2 (now ++ [(turnM t).1]) (by omega) (h.tail.trans g1) (by simp; omega)
    obtain ⟨d, t', rfl⟩ : ∃ d t', t = d :: t' := by
     cases t with
     | nil => exact absurd rfl h2.2.2
     | cons d t' => exact ⟨d, t', rfl⟩
    obtain ⟨p3, p4⟩ := h.tail.ps_cons
    have hd := h.tail.bix
    have hc92 : (c.toNat : Int) = 92 := by rw [h2.1]; rfl
    have hm34 : (mark.toNat : Int) = 34 := by rw [h2.2.1]; rfl
    have hstep : mewsref04.Split.body0 s ⟨out, (mark.toNat : Int), true, false, now, (ps s (c :: d :: t') : Int)⟩ = some (.inl ⟨out, (mark.toNat : Int), true, false, now ++ [(turnM (d :: t')).1], (ps s (turnM (d :: t')).2 : Int)⟩) := by
     rw [if_pos hc92, if_pos hm34, if_pos hc92, if_pos hm34] at hbody
     cases hp : hexPair d t' with
     | some q =>
      obtain ⟨v, u⟩ := q
      obtain ⟨d1, d2, a, b, rfl, e120, ha, hb', rfl⟩ := hexPair_some hp
      obtain ⟨p5, p6⟩ := h.tail.tail.ps_cons
      obtain ⟨p7, p8⟩ := h.tail.tail.tail.ps_cons
      have hd1 := h.tail.tail.bix
      have hd2 := h.tail.tail.tail.bix
      have ha16 := hexN_lt ha
      have hb16 := hexN_lt hb'
      rw [turnM_hex hp]
      have := hbody (X := (out, (mark.toNat : Int), true, false, now ++ [UInt8.ofNat (16 * a + b)], (ps s (c :: d :: d1 :: d2 :: u) : Int) + 3)) (by
       rw [if_pos (by omega), need_eq ⟨by omega, by omega⟩, hd, if_pos (by rw [e120]; rfl), need_eq ⟨by omega, by omega⟩, show (ps s (c :: d :: d1 :: d2 :: u) : Int) + 2 = (ps s (d1 :: d2 :: u) : Int) by omega, hd1, digit_eq, ha]
       simp only [Option.bind_some]
       rw [if_pos (by omega), need_eq ⟨by omega, by omega⟩, show (ps s (c :: d :: d1 :: d2 :: u) : Int) + 3 = (ps s (d2 :: u) : Int) by omega, hd2, digit_eq, hb']
       simp only [Option.bind_some]
       rw [decide_eq_true (by omega)]
       simp only [if_true]
       rw [need_eq ⟨by omega, by omega⟩, need_eq ⟨by omega, by omega⟩, i64w (n := 16 * (a : Int)) (by omega) (by omega), i64w (n := 16 * (a : Int) + b) (by omega) (by omega), u8w (by omega) (by omega)]
       have e : 16 * (a : Int) + b = ((UInt8.ofNat (16 * a + b)).toNat : Int) := by rw [ofNat16 ha16 hb16]; omega
       rw [e, need_eq (isU8_toNat _), u8_toNat, need_eq (by simp only [List.length_singleton]; omega)])
      simp only at this
      rw [this, i64w (by omega) (by omega), show (ps s (c :: d :: d1 :: d2 :: u) : Int) + 3 + 1 = (ps s u : Int) by omega]
     | none =>
      rw [turnM_plain hp]
      have hgf : (if (ps s (c :: d :: t') : Int) + 3 < (s.length : Int) then need (InB (ps s (d :: t') : Int) s.length) (if bix s (ps s (d :: t') : Int) = 120 then need (InB ((ps s (c :: d :: t') : Int) + 2) s.length) ((mewsref04.digit (bix s ((ps s (c :: d :: t') : Int) + 2))).bind fun r3195 => if r3195 < 16 then need (InB ((ps s (c :: d :: t') : Int) + 3) s.length) ((mewsref04.digit (bix s ((ps s (c :: d :: t') : Int) + 3))).bind fun r3198 => some (decide (r3198 < 16))) else some false) else some false) else some false) = some false := by
       match t', h, p3, hp, hd with
       | [], h, p3, hp, hd => rw [ps_nil] at p3; rw [if_neg (by omega)]
       | [x], h, p3, hp, hd =>
        have p5 := h.tail.tail.ps_cons.1
        rw [ps_nil] at p5; rw [if_neg (by omega)]
       | d1 :: d2 :: u, h, p3, hp, hd =>
        obtain ⟨p5, p6⟩ := h.tail.tail.ps_cons
        obtain ⟨p7, p8⟩ := h.tail.tail.tail.ps_cons
        have hd1 := h.tail.tail.bix
        have hd2 := h.tail.tail.tail.bix
        simp only [hexPair] at hp
        rw [if_pos (by omega), need_eq ⟨by omega, by omega⟩, hd]
        by_cases e120 : d = 120
        ·rw [if_pos e120] at hp
         rw [if_pos (by rw [e120]; rfl), need_eq ⟨by omega, by omega⟩, show (ps s (c :: d :: d1 :: d2 :: u) : Int) + 2 = (ps s (d1 :: d2 :: u) : Int) by omega, hd1, digit_eq]
         cases ha : hexN d1 with
         | none => rfl
         | some a =>
          have ha16 := hexN_lt ha
          simp only [Option.bind_some]
          rw [if_pos (by omega), need_eq ⟨by omega, by omega⟩, show (ps s (c :: d :: d1 :: d2 :: u) : Int) + 3 = (ps s (d2 :: u) : Int) by omega, hd2, digit_eq]
          cases hb' : hexN d2 with
          | none => rfl
          | some b => rw [ha, hb'] at hp; simp at hp
        ·rw [if_neg (show ¬ (d.toNat : Int) = 120 from fun e => e120 ((toNat_eq_iff d 120).1 e))]
      have := hbody (X := (out, (mark.toNat : Int), true, false, now ++ [trn d], (ps s (d :: t') : Int))) (by
       rw [hgf]
       simp only [Option.bind_some, Bool.false_eq_true, if_false]
       rw [decide_eq_true (by omega)]
       simp only [if_true]
       rw [need_eq ⟨by omega, by omega⟩, hd, turned_eq]
       simp only [Option.bind_some]
       rw [need_eq (isU8_toNat _), need_eq (by simp only [List.length_singleton]; omega), u8_toNat])
      simp only at this
      rw [this, i64w (by omega) (by omega), show (ps s (d :: t') : Int) + 1 = (ps s t' : Int) by omega]
    cases hq : qM mark (turnM (d :: t')).2 (now ++ [(turnM (d :: t')).1]) with
    | none => rw [hq] at ih; exact RRes.next hstep ih
    | some q => rw [hq] at ih; exact fun r hr => RRes.next hstep (ih r hr)
   ·rw [if_neg h2]
    have hg1 : ∀ {α : Type} (x y : Option α), ((if (c.toNat : Int) = 92 then if (mark.toNat : Int) = 34 then if (ps s (c :: t) : Int) + 3 < (s.length : Int) then x else y else y else y)) = y := by
     intro α x y
     by_cases g1 : c = 92
     ·rw [if_pos (by rw [g1]; rfl)]
      by_cases g2 : mark = 34
      ·rw [if_pos (by rw [g2]; rfl)]
       have : t = [] := by
        by_cases ht : t = []
        ·exact ht
        ·exact absurd ⟨g1, g2, ht⟩ h2
       subst this
       rw [ps_nil] at p1
       rw [if_neg (by omega)]
      ·rw [if_neg (show ¬ (mark.toNat : Int) = 34 from fun e => g2 ((toNat_eq_iff mark 34).1 e))]
     ·rw [if_neg (show ¬ (c.toNat : Int) = 92 from fun e => g1 ((toNat_eq_iff c 92).1 e))]
    have hg2 : (if (c.toNat : Int) = 92 then if (mark.toNat : Int) = 34 then decide ((ps s t : Int) < (s.length : Int)) else false else false) = false := by
     by_cases g1 : c = 92
     ·rw [if_pos (by rw [g1]; rfl)]
      by_cases g2 : mark = 34
      ·rw [if_pos (by rw [g2]; rfl)]
       have : t = [] := by
        by_cases ht : t = []
        ·exact ht
        ·exact absurd ⟨g1, g2, ht⟩ h2
       subst this
       rw [ps_nil, decide_eq_false (by omega)]
      ·rw [if_neg (show ¬ (mark.toNat : Int) = 34 from fun e => g2 ((toNat_eq_iff mark 34).1 e))]
     ·rw [if_neg (show ¬ (c.toNat : Int) = 92 from fun e => g1 ((toNat_eq_iff c 92).1 e))]
    rw [hg1, hg2] at hbody
    simp only [Option.bind_some, Bool.false_eq_true, if_false] at hbody
    by_cases h3 : c = 92 ∧ mark = 39 ∧ t.head? = some 39
    ·rw [if_pos h3]
     obtain ⟨t', rfl⟩ : ∃ t', t = 39 :: t' := by
      cases t with
      | nil => simp at h3
      | cons d t' => simp at h3; exact ⟨t', by rw [h3.2.2]⟩
     obtain ⟨p3, p4⟩ := h.tail.ps_cons
     have hb39 := h.tail.bix
     simp only [List.drop_succ_cons, List.drop_zero]
     simp only [List.length_cons] at hn hb
     have ih := R_quotes hs hmark out ho n t' (now ++ [39]) (by omega) h.tail.tail (by simp; omega)
     have hstep := hbody (X := (out, (mark.toNat : Int), true, false, now ++ [39], (ps s (39 :: t') : Int))) (by
      rw [if_pos (by rw [h3.1]; rfl), if_pos (by rw [h3.2.1]; rfl), if_pos (by omega), need_eq ⟨by omega, by omega⟩, hb39, decide_eq_true (by rfl)]
      simp only [Option.bind_some, if_true]
      rw [need_eq (by simp only [List.length_singleton]; omega)])
     simp only at hstep
     rw [i64w (n := (ps s (39 :: t') : Int) + 1) (by omega) (by omega), show (ps s (39 :: t') : Int) + 1 = (ps s t' : Int) by omega] at hstep
     cases hq : qM mark t' (now ++ [39]) with
     | none => rw [hq] at ih; exact RRes.next hstep ih
     | some q => rw [hq] at ih; exact fun r hr => RRes.next hstep (ih r hr)
    ·rw [if_neg h3]
     have ih := R_quotes hs hmark out ho n t (now ++ [c]) (by omega) h.tail (by simp; omega)
     have hg3 : (if (c.toNat : Int) = 92 then if (mark.toNat : Int) = 39 then if (ps s t : Int) < (s.length : Int) then need (InB (ps s t : Int) s.length) (some (decide (bix s (ps s t : Int) = 39))) else some false else some false else some false) = some false := by
      by_cases g1 : c = 92
      ·rw [if_pos (by rw [g1]; rfl)]
       by_cases g2 : mark = 39
       ·rw [if_pos (by rw [g2]; rfl)]
        cases t with
        | nil => rw [ps_nil, if_neg (by omega)]
        | cons d t' =>
         obtain ⟨p3, p4⟩ := h.tail.ps_cons
         have hd := h.tail.bix
         rw [if_pos (by omega), need_eq ⟨by omega, by omega⟩, hd, decide_eq_false]
         intro e
         have : d = 39 := (toNat_eq_iff d 39).1 e
         exact h3 ⟨g1, g2, by rw [this]; rfl⟩
       ·rw [if_neg (show ¬ (mark.toNat : Int) = 39 from fun e => g2 ((toNat_eq_iff mark 39).1 e))]
      ·rw [if_neg (show ¬ (c.toNat : Int) = 92 from fun e => g1 ((toNat_eq_iff c 92).1 e))]
     have hstep := hbody (X := (out, (mark.toNat : Int), true, false, now ++ [c], (ps s (c :: t) : Int))) (by
      rw [hg3]
      simp only [Option.bind_some, Bool.false_eq_true, if_false]
      rw [show (ps s t : Int) = (ps s (c :: t) : Int) + 1 by omega, need_eq ⟨by omega, by omega, by omega⟩, sub_ps h, need_eq (by simp only [List.length_singleton]; omega)])
     simp only at hstep
     rw [hw1] at hstep
     cases hq : qM mark t (now ++ [c]) with
     | none => rw [hq] at ih; exact RRes.next hstep ih
     | some q => rw [hq] at ih; exact fun r hr => RRes.next hstep (ih r hr)

theorem qM_acc (mark : UInt8) : ∀ (n : Nat) (t a b : List UInt8), t.length ≤ n → qM mark t (a ++ b) = (qM mark t b).map fun q => (a ++ q.1, q.2)
 | n, [], a, b, _ => by rw [qM_nil, qM_nil]; rfl
 | 0, c :: t, a, b, h => by simp at h
 | n + 1, c :: t, a, b, h => by
  simp only [List.length_cons] at h
  rw [qM_cons, qM_cons]
  by_cases h1 : c = mark
  ·rw [if_pos h1, if_pos h1]
   by_cases h2 : endsB t = true
   ·rw [if_pos h2, if_pos h2]; rfl
   ·rw [if_neg h2, if_neg h2]; rfl
  ·rw [if_neg h1, if_neg h1]
   by_cases h2 : c = 92 ∧ mark = 34 ∧ t ≠ []
   ·rw [if_pos h2, if_pos h2, List.append_assoc, qM_acc mark n _ a _ (by have := (turnM_sfx (t := t)).2.1; omega)]
   ·rw [if_neg h2, if_neg h2]
    by_cases h3 : c = 92 ∧ mark = 39 ∧ t.head? = some 39
    ·rw [if_pos h3, if_pos h3, List.append_assoc, qM_acc mark n _ a _ (by simp; omega)]
    ·rw [if_neg h3, if_neg h3, List.append_assoc, qM_acc mark n _ a _ (by omega)]

/-- An argument. -/
theorem R_arg {s : List UInt8} (hs : s.length ≤ 1000000000) (out : List (List UInt8)) (ho : out.length ≤ 1000000000) :
  ∀ (n : Nat) (t now : List UInt8) (op cl : Bool), t.length ≤ n → Sfx s t → now.length + t.length ≤ 1000000000 → (op = true ∨ endsB t = false) → (cl = true → endsB t = true) →
   match argM t now with
   | none => RRes s ⟨out, 0, op, cl, now, (ps s t : Int)⟩ ([], false)
   | some q => ∀ r, (∀ cl, RRes s ⟨out, 0, true, cl, q.1, (ps s q.2 : Int)⟩ r) → RRes s ⟨out, 0, op, cl, now, (ps s t : Int)⟩ r
 | n, [], now, op, cl, _, h, hb, hop, hcl => by
  rw [argM_nil]
  have : op = true := hop.resolve_right (by simp [endsB])
  subst this
  exact fun r hr => hr cl
 | 0, c :: t, now, op, cl, hn, _, _, _, _ => by simp at hn
 | n + 1, c :: t, now, op, cl, hn, h, hb, hop, hcl => by
  simp only [List.length_cons] at hn hb
  by_cases h1 : blankB c = true
  ·rw [argM_blank h1]
   have : op = true := hop.resolve_right (by simp [endsB, h1])
   subst this
   exact fun r hr => hr cl
  ·have hcf : cl = false := by
    cases cl with
    | false => rfl
    | true => exact absurd (hcl rfl) (by simpa [endsB] using h1)
   subst hcf
   by_cases h2 : c ≠ 34 ∧ c ≠ 39
   ·rw [argM_plain h1 h2]
    have ih := R_arg hs out ho n t (now ++ [c]) true false (by omega) h.tail (by simp; omega) (.inl rfl) (fun h => by cases h)
    cases hq : argM t (now ++ [c]) with
    | none => rw [hq] at ih; exact R_plain hs (by omega) h h1 h2 ih
    | some q => rw [hq] at ih; exact fun r hr => R_plain hs (by omega) h h1 h2 (ih r hr)
   ·have hq34 : c = 34 ∨ c = 39 := by
     by_cases e : c = 34
     ·exact .inl e
     ·by_cases e2 : c = 39
      ·exact .inr e2
      ·exact absurd ⟨e, e2⟩ h2
    have hqs := R_quotes hs hq34 out ho t.length t now (Nat.le_refl _) h.tail (by omega)
    have hacc := qM_acc c t.length t now [] (Nat.le_refl _)
    rw [List.append_nil] at hacc
    rw [hacc] at hqs
    cases h3 : qM c t [] with
    | none =>
     rw [argM_bad h1 h2 h3]
     rw [h3] at hqs
     exact R_open hs h h1 hq34 hqs
    | some q =>
     obtain ⟨x, u⟩ := q
     rw [argM_quote h1 h2 h3]
     rw [h3] at hqs
     simp only [Option.map_some] at hqs
     obtain ⟨g1, g2, g3, g4⟩ := qM_some (Nat.le_refl _) h3
     have ih := R_arg hs out ho n u (now ++ x) true true (by omega) (h.tail.trans g1) (by simp at g4 ⊢; omega) (.inl rfl) (fun _ => g3)
     cases hq : argM u (now ++ x) with
     | none => rw [hq] at ih; exact R_open hs h h1 hq34 (hqs _ ih)
     | some q => rw [hq] at ih; exact fun r hr => R_open hs h h1 hq34 (hqs _ (ih r hr))

theorem splitM_blank {c : UInt8} {t : List UInt8} {out : List (List UInt8)} (h : blankB c = true) : splitM (c :: t) out = splitM t out := by
 have e : (c :: t).dropWhile blankB = t.dropWhile blankB := by rw [List.dropWhile_cons, if_pos h]
 cases h1 : t.dropWhile blankB with
 | nil => rw [splitM_end h1, splitM_end (e.trans h1)]
 | cons d u =>
  cases h2 : argM (d :: u) [] with
  | none => rw [splitM_bad h1 h2, splitM_bad (e.trans h1) h2]
  | some q => obtain ⟨b, t'⟩ := q; rw [splitM_next h1 h2, splitM_next (e.trans h1) h2]

theorem R_split {s : List UInt8} (hs : s.length ≤ 1000000000) : ∀ (n : Nat) (t : List UInt8) (out : List (List UInt8)), t.length ≤ n → Sfx s t → out.length + t.length ≤ 1000000000 →
  RRes s ⟨out, 0, false, false, [], (ps s t : Int)⟩ (match splitM t out with | some o => (o, true) | none => ([], false))
 | n, [], out, _, h, hb => by
  rw [splitM_end rfl]
  have := R_end (s := s) (out := out) (q := 0) (op := false) (cl := false) (now := []) hs (by simp at hb; omega)
  simpa using this
 | 0, c :: t, out, hn, _, _ => by simp at hn
 | n + 1, c :: t, out, hn, h, hb => by
  simp only [List.length_cons] at hn hb
  by_cases h1 : blankB c = true
  ·rw [splitM_blank h1]
   exact R_gap hs (by omega) h h1 (R_split hs n t out (by omega) h.tail (by omega))
  ·have hdw : (c :: t).dropWhile blankB = c :: t := by rw [List.dropWhile_cons, if_neg h1]
   have hsl := h.len
   have ha := R_arg hs out (by omega) (c :: t).length (c :: t) [] false false (Nat.le_refl _) h (by simp at hsl ⊢; omega) (.inr (by simpa [endsB] using h1)) (fun h => by cases h)
   cases h2 : argM (c :: t) [] with
   | none => rw [splitM_bad hdw h2]; rw [h2] at ha; exact ha
   | some q =>
    obtain ⟨b, t'⟩ := q
    rw [splitM_next hdw h2]
    rw [h2] at ha
    obtain ⟨g1, g2, g3, g4⟩ := argM_some (Nat.le_refl _) h2
    have g5 : t'.length < (c :: t).length := g4.resolve_left (by simpa [endsB] using h1)
    simp only [List.length_cons] at g5
    refine ha _ fun cl => ?_
    cases t' with
    | nil =>
     rw [splitM_end rfl]
     have := R_end (s := s) (out := out) (q := 0) (op := true) (cl := cl) (now := b) hs (by omega)
     simpa using this
    | cons d u =>
     simp only [List.length_cons] at g5
     rw [splitM_blank g2]
     exact R_gap hs (by omega) (h.trans g1) g2 (R_split hs n u (out ++ [b]) (by omega) (h.trans g1).tail (by simp; omega))

theorem rSplit_eq (s : List UInt8) (hs : s.length ≤ 1000000000) : mewsref04.Split s = some (match splitM s [] with | some o => (o, true) | none => ([], false)) := by
 have := R_split hs s.length s [] (Nat.le_refl _) (Sfx.refl s) (by simp; omega)
 rw [ps_self] at this
 exact this

end Go.Pu
