import Derived.Test.YtakmcdnailmhlaaGreatPSPuBase
import Derived.Test.YtakmcdnailmhlaaGreatPSPuNum
set_option maxRecDepth 100000
namespace Go.Pu
open Go.Lift

theorem trn_ite (c : UInt8) (x : Int) (p : Prop) [Decidable p] (hp : p) :
  (if (c.toNat : Int) = 110 then some ((10 : Int), x) else if (c.toNat : Int) = 114 then some (13, x) else if (c.toNat : Int) = 116 then some (9, x) else if (c.toNat : Int) = 98 then some (8, x) else if (c.toNat : Int) = 97 then some (7, x) else need p (some ((c.toNat : Int), x))) = some (((trn c).toNat : Int), x) := by
 unfold trn
 by_cases h1 : c = 110
 ·rw [if_pos (show (c.toNat : Int) = 110 by rw [h1]; rfl), if_pos h1]; rfl
 rw [if_neg (show ¬ (c.toNat : Int) = 110 from fun h => h1 ((toNat_eq_iff c 110).1 h)), if_neg h1]
 by_cases h2 : c = 114
 ·rw [if_pos (show (c.toNat : Int) = 114 by rw [h2]; rfl), if_pos h2]; rfl
 rw [if_neg (show ¬ (c.toNat : Int) = 114 from fun h => h2 ((toNat_eq_iff c 114).1 h)), if_neg h2]
 by_cases h3 : c = 116
 ·rw [if_pos (show (c.toNat : Int) = 116 by rw [h3]; rfl), if_pos h3]; rfl
 rw [if_neg (show ¬ (c.toNat : Int) = 116 from fun h => h3 ((toNat_eq_iff c 116).1 h)), if_neg h3]
 by_cases h4 : c = 98
 ·rw [if_pos (show (c.toNat : Int) = 98 by rw [h4]; rfl), if_pos h4]; rfl
 rw [if_neg (show ¬ (c.toNat : Int) = 98 from fun h => h4 ((toNat_eq_iff c 98).1 h)), if_neg h4]
 by_cases h5 : c = 97
 ·rw [if_pos (show (c.toNat : Int) = 97 by rw [h5]; rfl), if_pos h5]; rfl
 rw [if_neg (show ¬ (c.toNat : Int) = 97 from fun h => h5 ((toNat_eq_iff c 97).1 h)), if_neg h5, need_eq hp]

theorem ofNat16 {a b : Nat} (ha : a < 16) (hb : b < 16) : (UInt8.ofNat (16 * a + b)).toNat = 16 * a + b := by
 simp; omega

theorem turn_eq (s : List UInt8) (hs : s.length ≤ 1000000000) {c : UInt8} {t : List UInt8} (h : Sfx s (c :: t)) :
  line.turn s (ps s (c :: t) : Int) = some (((turnM (c :: t)).1.toNat : Int), (ps s (turnM (c :: t)).2 : Int)) := by
 have hb := h.bix
 obtain ⟨p1, p2⟩ := h.ps_cons
 have hlen := h.len
 have hguard : (need (InB (ps s (c :: t) : Int) s.length) <|
  if (bix s (ps s (c :: t) : Int)) = 120 then
   if (IntKind.wrap .i64 ((ps s (c :: t) : Int) + 2)) < (s.length : Int) then
    need (InB (IntKind.wrap .i64 ((ps s (c :: t) : Int) + 1)) s.length) <|
    (line.hex (bix s (IntKind.wrap .i64 ((ps s (c :: t) : Int) + 1)))).bind fun r47 =>
    if 0 ≤ r47 then
     need (InB (IntKind.wrap .i64 ((ps s (c :: t) : Int) + 2)) s.length) <|
     (line.hex (bix s (IntKind.wrap .i64 ((ps s (c :: t) : Int) + 2)))).bind fun r50 =>
     some (decide (0 ≤ r50))
    else
     some false
   else
    some false
  else
   some false) = some (hexPair c t).isSome := by
  rw [need_eq ⟨by omega, by omega⟩, hb]
  by_cases h1 : c = 120
  ·rw [if_pos (by rw [h1]; rfl), i64w (n := (ps s (c :: t) : Int) + 2) (by omega) (by omega)]
   match t, h, p1, hlen with
   | [], h, p1, hlen =>
    rw [ps_nil] at p1
    rw [if_neg (by omega)]; rfl
   | [d], h, p1, hlen =>
    have p3 := h.tail.ps_cons.1
    rw [ps_nil] at p3
    rw [if_neg (by omega)]; rfl
   | d1 :: d2 :: t, h, p1, hlen =>
    obtain ⟨p3, p4⟩ := h.tail.ps_cons
    obtain ⟨p5, p6⟩ := h.tail.tail.ps_cons
    have hb1 := h.tail.bix
    have hb2 := h.tail.tail.bix
    rw [if_pos (by omega), i64w (n := (ps s _ : Int) + 1) (by omega) (by omega), need_eq ⟨by omega, by omega⟩, need_eq ⟨by omega, by omega⟩, show (ps s (c :: d1 :: d2 :: t) : Int) + 1 = (ps s (d1 :: d2 :: t) : Int) by omega, show (ps s (c :: d1 :: d2 :: t) : Int) + 2 = (ps s (d2 :: t) : Int) by omega, hb1, hb2, hex_eq, hex_eq]
    simp only [hexPair, if_pos h1, Option.bind_some]
    cases hexN d1 with
    | none => rfl
    | some a =>
     cases hexN d2 with
     | none => simp
     | some b => simp
  ·rw [if_neg (show ¬ (c.toNat : Int) = 120 from fun h => h1 ((toNat_eq_iff c 120).1 h))]
   match t with
   | [] => rfl
   | [d] => rfl
   | d1 :: d2 :: t => simp [hexPair, h1]
 unfold line.turn
 rw [hguard]
 simp only [Option.bind_some]
 cases hp : hexPair c t with
 | none =>
  rw [turnM_plain hp, if_neg (by simp), need_eq ⟨by omega, by omega⟩, hb, i64w (n := (ps s (c :: t) : Int) + 1) (by omega) (by omega), trn_ite _ _ _ ⟨by omega, by omega⟩]
  simp only
  rw [show (ps s (c :: t) : Int) + 1 = (ps s t : Int) by omega]
 | some r =>
  obtain ⟨v, t'⟩ := r
  rw [turnM_hex hp]
  obtain ⟨d1, d2, a, b, rfl, hc, ha, hbb, rfl⟩ := hexPair_some hp
  obtain ⟨p3, p4⟩ := h.tail.ps_cons
  obtain ⟨p5, p6⟩ := h.tail.tail.ps_cons
  have hb1 := h.tail.bix
  have hb2 := h.tail.tail.bix
  have ha16 := hexN_lt ha
  have hb16 := hexN_lt hbb
  simp only [Option.isSome_some, if_true]
  rw [i64w (n := (ps s _ : Int) + 1) (by omega) (by omega), i64w (n := (ps s _ : Int) + 2) (by omega) (by omega), need_eq ⟨by omega, by omega⟩, show (ps s (c :: d1 :: d2 :: t') : Int) + 1 = (ps s (d1 :: d2 :: t') : Int) by omega, show (ps s (c :: d1 :: d2 :: t') : Int) + 2 = (ps s (d2 :: t') : Int) by omega, hb1, hex_eq, ha]
  simp only [Option.bind_some]
  rw [need_eq ⟨by omega, by omega⟩, hb2, hex_eq, hbb]
  simp only [Option.bind_some]
  rw [i64w (n := 16 * (a : Int)) (by omega) (by omega), i64w (n := 16 * (a : Int) + b) (by omega) (by omega), u8w (by omega) (by omega), i64w (n := (ps s _ : Int) + 3) (by omega) (by omega), ofNat16 ha16 hb16,
   show (ps s (c :: d1 :: d2 :: t') : Int) + 3 = (ps s t' : Int) by omega]
  simp

theorem u8_toNat (c : UInt8) : u8 (c.toNat : Int) = c := by simp [u8]
theorem isU8_toNat (c : UInt8) : IsU8 (c.toNat : Int) := by
 have := c.toNat_lt
 unfold IsU8; omega

theorem quoted1_eq (s t : List UInt8) (h : Sfx s t) : line.quoted_1 (ps s t : Int) s = some (endsB t) := by
 unfold line.quoted_1
 cases t with
 | nil => rw [ps_nil, if_pos rfl]; rfl
 | cons c t =>
  obtain ⟨p1, p2⟩ := h.ps_cons
  rw [if_neg (by omega), need_eq ⟨by omega, by omega⟩, h.bix, blank_eq]
  rfl

theorem quoted_go (s : List UInt8) (hs : s.length ≤ 1000000000) (mark : UInt8) : ∀ (n : Nat) (t b : List UInt8), t.length ≤ n → Sfx s t → b.length + t.length ≤ 1000000000 →
  ∃ r, line.quoted.loop0 s (mark.toNat : Int) ⟨(ps s t : Int), b⟩ = some r ∧ (match qM mark t b with | some q => r = .inr (q.1, (ps s q.2 : Int), true) | none => (∃ x y, r = .inr (x, y, false)) ∨ (∃ y, r = .inl y))
 | n, [], b, _, h, hb => by
  refine ⟨.inl (ps s [] : Int), ?_, ?_⟩
  ·unfold line.quoted.loop0
   apply whileO_end
   unfold line.quoted.body0
   rw [if_neg (by simp only; rw [ps_nil]; omega)]
  ·rw [qM_nil]; exact .inr ⟨_, rfl⟩
 | 0, c :: t, b, hn, _, _ => by simp at hn
 | n + 1, c :: t, b, hn, h, hb => by
  have hc := h.bix
  obtain ⟨p1, p2⟩ := h.ps_cons
  simp only [List.length_cons] at hn hb
  rw [qM_cons]
  by_cases h1 : c = mark
  ·rw [if_pos h1]
   refine ⟨.inr (b, (ps s t : Int), endsB t), ?_, ?_⟩
   ·unfold line.quoted.loop0
    apply whileO_end
    unfold line.quoted.body0
    simp only
    rw [if_pos (by omega), need_eq ⟨by omega, by omega⟩, hc, if_pos (by rw [h1]), i64w (n := (ps s (c :: t) : Int) + 1) (by omega) (by omega), show (ps s (c :: t) : Int) + 1 = (ps s t : Int) by omega, quoted1_eq s t h.tail]
    rfl
   ·cases endsB t with
    | true => rfl
    | false => exact .inl ⟨_, _, rfl⟩
  ·rw [if_neg h1]
   have hcm : ¬ (c.toNat : Int) = (mark.toNat : Int) := fun e => h1 ((toNat_eq_iff c mark).1 e)
   by_cases h2 : c = 92 ∧ mark = 34 ∧ t ≠ []
   ·rw [if_pos h2]
    obtain ⟨g1, g2, g3⟩ := turnM_sfx (t := t)
    have g3 := g3 h2.2.2
    obtain ⟨r, r1, r2⟩ := quoted_go s hs mark n (turnM t).2 (b ++ [(turnM t).1]) (by omega) (h.tail.trans g1) (by simp; omega)
    refine ⟨r, whileO_next ?_ r1, r2⟩
    obtain ⟨d, t', rfl⟩ : ∃ d t', t = d :: t' := by
     cases t with
     | nil => exact absurd rfl h2.2.2
     | cons d t' => exact ⟨d, t', rfl⟩
    obtain ⟨p3, p4⟩ := h.tail.ps_cons
    unfold line.quoted.body0
    simp only [letO]
    rw [if_pos (by omega), need_eq ⟨by omega, by omega⟩, hc, if_neg hcm, i64w (n := (ps s (c :: d :: t') : Int) + 1) (by omega) (by omega)]
    have hg : (if (c.toNat : Int) = 92 then if (mark.toNat : Int) = 34 then decide ((ps s (c :: d :: t') : Int) + 1 < (s.length : Int)) else false else false) = true := by
     rw [if_pos (by rw [h2.1]; rfl), if_pos (by rw [h2.2.1]; rfl), decide_eq_true (by omega)]
    rw [hg, if_pos rfl, show (ps s (c :: d :: t') : Int) + 1 = (ps s (d :: t') : Int) by omega, turn_eq s hs h.tail]
    simp only [Option.bind_some]
    rw [need_eq (isU8_toNat _), need_eq (by simp; omega), u8_toNat]
   ·rw [if_neg h2]
    have hg : (if (c.toNat : Int) = 92 then if (mark.toNat : Int) = 34 then decide ((ps s (c :: t) : Int) + 1 < (s.length : Int)) else false else false) = false := by
     by_cases g1 : c = 92
     ·rw [if_pos (by rw [g1]; rfl)]
      by_cases g2 : mark = 34
      ·rw [if_pos (by rw [g2]; rfl)]
       have : t = [] := by
        by_cases ht : t = []
        ·exact ht
        ·exact absurd ⟨g1, g2, ht⟩ h2
       subst this
       rw [ps_nil] at p1
       rw [decide_eq_false (by omega)]
      ·rw [if_neg (show ¬ (mark.toNat : Int) = 34 from fun e => g2 ((toNat_eq_iff mark 34).1 e))]
     ·rw [if_neg (show ¬ (c.toNat : Int) = 92 from fun e => g1 ((toNat_eq_iff c 92).1 e))]
    by_cases h3 : c = 92 ∧ mark = 39 ∧ t.head? = some 39
    ·rw [if_pos h3]
     obtain ⟨t', rfl⟩ : ∃ t', t = 39 :: t' := by
      cases t with
      | nil => simp at h3
      | cons d t' => simp at h3; exact ⟨t', by rw [h3.2.2]⟩
     obtain ⟨p3, p4⟩ := h.tail.ps_cons
     have hb39 := h.tail.bix
     simp only [List.drop_succ_cons, List.drop_zero]
     simp only [List.length_cons] at hn hb
     obtain ⟨r, r1, r2⟩ := quoted_go s hs mark n t' (b ++ [39]) (by omega) h.tail.tail (by simp; omega)
     refine ⟨r, whileO_next ?_ r1, r2⟩
     unfold line.quoted.body0
     simp only [letO]
     rw [if_pos (by omega), need_eq ⟨by omega, by omega⟩, hc, if_neg hcm, i64w (n := (ps s (c :: 39 :: t') : Int) + 1) (by omega) (by omega), hg]
     simp only [Bool.false_eq_true, if_false]
     rw [if_pos (by rw [h3.1]; rfl), if_pos (by rw [h3.2.1]; rfl), if_pos (by omega), need_eq ⟨by omega, by omega⟩, show (ps s (c :: 39 :: t') : Int) + 1 = (ps s (39 :: t') : Int) by omega, hb39, decide_eq_true (by rw [h3.2.1])]
     simp only [Option.bind_some, if_true]
     rw [need_eq (isU8_toNat _), need_eq (by simp; omega), u8_toNat, i64w (by omega) (by omega), h3.2.1, show (ps s (c :: 39 :: t') : Int) + 2 = (ps s t' : Int) by omega]
    ·rw [if_neg h3]
     obtain ⟨r, r1, r2⟩ := quoted_go s hs mark n t (b ++ [c]) (by omega) h.tail (by simp; omega)
     refine ⟨r, whileO_next ?_ r1, r2⟩
     have hg2 : (if (c.toNat : Int) = 92 then if (mark.toNat : Int) = 39 then if (ps s (c :: t) : Int) + 1 < (s.length : Int) then need (InB ((ps s (c :: t) : Int) + 1) s.length) (some (decide (bix s ((ps s (c :: t) : Int) + 1) = (mark.toNat : Int)))) else some false else some false else some false) = some false := by
      by_cases g1 : c = 92
      ·rw [if_pos (by rw [g1]; rfl)]
       by_cases g2 : mark = 39
       ·rw [if_pos (by rw [g2]; rfl)]
        cases t with
        | nil => rw [ps_nil] at p1; rw [if_neg (by omega)]
        | cons d t' =>
         obtain ⟨p3, p4⟩ := h.tail.ps_cons
         have hd := h.tail.bix
         rw [if_pos (by omega), need_eq ⟨by omega, by omega⟩, show (ps s (c :: d :: t') : Int) + 1 = (ps s (d :: t') : Int) by omega, hd, decide_eq_false]
         intro e
         have : d = mark := (toNat_eq_iff d mark).1 e
         exact h3 ⟨g1, g2, by rw [this, g2]; rfl⟩
       ·rw [if_neg (show ¬ (mark.toNat : Int) = 39 from fun e => g2 ((toNat_eq_iff mark 39).1 e))]
      ·rw [if_neg (show ¬ (c.toNat : Int) = 92 from fun e => g1 ((toNat_eq_iff c 92).1 e))]
     unfold line.quoted.body0
     simp only [letO]
     rw [if_pos (by omega), need_eq ⟨by omega, by omega⟩, hc, if_neg hcm, i64w (n := (ps s (c :: t) : Int) + 1) (by omega) (by omega), hg]
     simp only [Bool.false_eq_true, if_false]
     rw [hg2]
     simp only [Option.bind_some, Bool.false_eq_true, if_false]
     rw [need_eq (isU8_toNat _), need_eq (by simp; omega), u8_toNat, show (ps s (c :: t) : Int) + 1 = (ps s t : Int) by omega]

theorem quoted_eq (s : List UInt8) (hs : s.length ≤ 1000000000) (mark : UInt8) (t : List UInt8) (h : Sfx s t) :
  ∃ r, line.quoted s (ps s t : Int) (mark.toNat : Int) = some r ∧ (match qM mark t [] with | some q => r = (q.1, (ps s q.2 : Int), true) | none => r.2.2 = false) := by
 have hl := h.len
 obtain ⟨r, r1, r2⟩ := quoted_go s hs mark t.length t [] (Nat.le_refl _) h (by simp; omega)
 unfold line.quoted
 rw [r1]
 cases hq : qM mark t [] with
 | some q => rw [hq] at r2; simp only at r2; subst r2; exact ⟨_, rfl, rfl⟩
 | none =>
  rw [hq] at r2
  rcases r2 with ⟨x, y, rfl⟩ | ⟨y, rfl⟩
  ·exact ⟨_, rfl, rfl⟩
  ·exact ⟨_, rfl, rfl⟩

theorem split2_eq (s : List UInt8) (hs : s.length ≤ 1000000000) : ∀ (t : List UInt8), Sfx s t → line.Split.loop2 s ⟨(ps s t : Int)⟩ = some (ps s (t.dropWhile blankB) : Int)
 | [], h => by
  unfold line.Split.loop2
  apply whileO_end
  unfold line.Split.body2
  simp only
  rw [ps_nil, if_neg (by omega)]
  simp [ps_nil]
 | c :: t, h => by
  have hc := h.bix
  obtain ⟨p1, p2⟩ := h.ps_cons
  by_cases hb : blankB c = true
  ·have ih := split2_eq s hs t h.tail
   rw [List.dropWhile_cons, if_pos hb]
   refine whileO_next ?_ ih
   unfold line.Split.body2
   simp only
   rw [if_pos (by omega), need_eq ⟨by omega, by omega⟩, hc, blank_eq]
   simp only [Option.bind_some, hb, if_true]
   rw [i64w (by omega) (by omega), show (ps s (c :: t) : Int) + 1 = (ps s t : Int) by omega]
  ·rw [List.dropWhile_cons, if_neg hb]
   unfold line.Split.loop2
   apply whileO_end
   unfold line.Split.body2
   simp only
   rw [if_pos (by omega), need_eq ⟨by omega, by omega⟩, hc, blank_eq]
   simp [hb]

theorem split4_eq (s : List UInt8) (hs : s.length ≤ 1000000000) : ∀ (n : Nat) (t b : List UInt8), t.length ≤ n → Sfx s t → b.length + t.length ≤ 1000000000 →
  line.Split.loop4 s ⟨(ps s t : Int), b⟩ = some (match argM t b with | some q => .inl ((ps s q.2 : Int), q.1) | none => .inr (.inr ([], false)))
 | n, [], b, _, h, hb => by
  rw [argM_nil]
  unfold line.Split.loop4
  apply whileO_end
  unfold line.Split.body4
  simp only
  rw [ps_nil, if_neg (by omega)]
  simp
 | 0, c :: t, b, hn, _, _ => by simp at hn
 | n + 1, c :: t, b, hn, h, hb => by
  have hc := h.bix
  obtain ⟨p1, p2⟩ := h.ps_cons
  simp only [List.length_cons] at hn hb
  have hguard : (if (ps s (c :: t) : Int) < (s.length : Int) then need (InB (ps s (c :: t) : Int) s.length) ((line.blank (bix s (ps s (c :: t) : Int))).bind fun r1677 => some (!r1677)) else some false) = some (!blankB c) := by
   rw [if_pos (by omega), need_eq ⟨by omega, by omega⟩, hc, blank_eq]; rfl
  by_cases h1 : blankB c = true
  ·rw [argM_blank h1]
   unfold line.Split.loop4
   apply whileO_end
   unfold line.Split.body4
   simp only
   rw [hguard, h1]
   rfl
  ·by_cases h2 : c ≠ 34 ∧ c ≠ 39
   ·rw [argM_plain h1 h2]
    have ih := split4_eq s hs n t (b ++ [c]) (by omega) h.tail (by simp; omega)
    refine whileO_next ?_ ih
    unfold line.Split.body4
    simp only
    rw [hguard]
    simp only [Option.bind_some]
    rw [if_pos (by simp [h1]), need_eq ⟨by omega, by omega⟩, need_eq ⟨by omega, by omega⟩, need_eq ⟨by omega, by omega⟩, hc, if_neg (show ¬ (c.toNat : Int) = 34 from fun e => h2.1 ((toNat_eq_iff c 34).1 e)), decide_eq_false (show ¬ (c.toNat : Int) = 39 from fun e => h2.2 ((toNat_eq_iff c 39).1 e))]
    simp only [Option.bind_some, Bool.not_false, if_true]
    rw [need_eq (isU8_toNat _), need_eq (by simp; omega), u8_toNat, i64w (by omega) (by omega), show (ps s (c :: t) : Int) + 1 = (ps s t : Int) by omega]
   ·have hq : (if (c.toNat : Int) = 34 then some false else some (!decide ((c.toNat : Int) = 39))) = some false := by
     by_cases e : c = 34
     ·rw [if_pos (by rw [e]; rfl)]
     ·have e2 : c = 39 := by
       by_cases e2 : c = 39
       ·exact e2
       ·exact absurd ⟨e, e2⟩ h2
      rw [if_neg (show ¬ (c.toNat : Int) = 34 from fun e' => e ((toNat_eq_iff c 34).1 e')), decide_eq_true (by rw [e2]; rfl)]
      rfl
    obtain ⟨r, r1, r2⟩ := quoted_eq s hs c t h.tail
    cases h3 : qM c t [] with
    | none =>
     rw [h3] at r2
     rw [argM_bad h1 h2 h3]
     unfold line.Split.loop4
     apply whileO_end
     unfold line.Split.body4
     simp only
     rw [hguard]
     simp only [Option.bind_some]
     rw [if_pos (by simp [h1]), need_eq ⟨by omega, by omega⟩, need_eq ⟨by omega, by omega⟩, need_eq ⟨by omega, by omega⟩, hc, hq]
     simp only [Option.bind_some, Bool.false_eq_true, if_false]
     rw [need_eq ⟨by omega, by omega⟩, i64w (by omega) (by omega), show (ps s (c :: t) : Int) + 1 = (ps s t : Int) by omega, r1]
     simp only [Option.bind_some]
     rw [if_pos (by rw [r2]; rfl)]
    | some q =>
     obtain ⟨x, t'⟩ := q
     rw [h3] at r2
     simp only at r2
     obtain ⟨g1, g2, g3, g4⟩ := qM_some (Nat.le_refl _) h3
     rw [argM_quote h1 h2 h3]
     have ih := split4_eq s hs n t' (b ++ x) (by omega) (h.tail.trans g1) (by simp at g4 ⊢; omega)
     refine whileO_next ?_ ih
     unfold line.Split.body4
     simp only
     rw [hguard]
     simp only [Option.bind_some]
     rw [if_pos (by simp [h1]), need_eq ⟨by omega, by omega⟩, need_eq ⟨by omega, by omega⟩, need_eq ⟨by omega, by omega⟩, hc, hq]
     simp only [Option.bind_some, Bool.false_eq_true, if_false]
     rw [need_eq ⟨by omega, by omega⟩, i64w (by omega) (by omega), show (ps s (c :: t) : Int) + 1 = (ps s t : Int) by omega, r1]
     simp only [Option.bind_some]
     rw [r2]
     simp only [Bool.not_true, Bool.false_eq_true, if_false]
     rw [need_eq (by simp at g4; omega)]

theorem split0_eq (s : List UInt8) (hs : s.length ≤ 1000000000) : ∀ (n : Nat) (t : List UInt8) (out : List (List UInt8)), t.length ≤ n → Sfx s t → out.length + t.length ≤ 1000000000 →
  line.Split.loop0 s ⟨out, (ps s t : Int)⟩ = some (match splitM t out with | some o => (o, true) | none => ([], false)) := by
 intro n
 induction n with
 | zero =>
  intro t out hn h hb
  have : t = [] := List.length_eq_zero_iff.1 (by omega)
  subst this
  rw [splitM_end rfl]
  unfold line.Split.loop0
  apply whileO_end
  unfold line.Split.body0
  simp only
  rw [split2_eq s hs [] h]
  simp [ps_nil]
 | succ n ih =>
  intro t out hn h hb
  have hd := sfx_dropWhile t blankB
  have hdl := hd.len
  cases h1 : t.dropWhile blankB with
  | nil =>
   rw [splitM_end h1]
   unfold line.Split.loop0
   apply whileO_end
   unfold line.Split.body0
   simp only
   rw [split2_eq s hs t h, h1]
   simp [ps_nil]
  | cons c u =>
   have hnb := dropWhile_head h1
   rw [h1] at hd hdl
   have hsu := h.trans hd
   obtain ⟨p1, p2⟩ := hsu.ps_cons
   have hsl := hsu.len
   have h4 := split4_eq s hs (c :: u).length (c :: u) [] (Nat.le_refl _) hsu (by simp at hsl ⊢; omega)
   cases h2 : argM (c :: u) [] with
   | none =>
    rw [splitM_bad h1 h2]
    rw [h2] at h4
    unfold line.Split.loop0
    apply whileO_end
    unfold line.Split.body0
    simp only
    rw [split2_eq s hs t h, h1]
    simp only [Option.bind_some]
    rw [if_neg (by omega), h4]
    rfl
   | some q =>
    obtain ⟨b, t'⟩ := q
    rw [splitM_next h1 h2]
    rw [h2] at h4
    obtain ⟨g1, g2, g3, g4⟩ := argM_some (Nat.le_refl _) h2
    have g5 : t'.length < (c :: u).length := g4.resolve_left (by simpa [endsB] using hnb)
    have ihh := ih t' (out ++ [b]) (by omega) (hsu.trans g1) (by simp; omega)
    refine whileO_next ?_ ihh
    unfold line.Split.body0
    simp only
    rw [split2_eq s hs t h, h1]
    simp only [Option.bind_some]
    rw [if_neg (by omega), h4]
    simp only [Option.bind_some, onSum]
    rw [need_eq (by simp; omega)]

theorem Split_eq (s : List UInt8) (hs : s.length ≤ 1000000000) : line.Split s = some (match splitM s [] with | some o => (o, true) | none => ([], false)) := by
 unfold line.Split
 have := split0_eq s hs s.length s [] (Nat.le_refl _) (Sfx.refl s) (by simp; omega)
 rw [ps_self] at this
 exact this

end Go.Pu
