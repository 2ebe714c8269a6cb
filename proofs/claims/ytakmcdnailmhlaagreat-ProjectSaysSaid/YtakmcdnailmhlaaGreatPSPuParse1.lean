import Derived.Test.YtakmcdnailmhlaaGreatPSPuSplit3
set_option maxRecDepth 100000
namespace Go.Pu
open Go.Lift

abbrev emptyIn : api.Input := { Rest := [], Args := [], Left := 0, Size := 0, Body := false, Need := 0, Dead := 0 }

/-- Limits that may be. -/
structure GoodL (l : api.Limits) : Prop where
 a : 1 ≤ l.Args ∧ l.Args ≤ 65536
 b : 1 ≤ l.Bulk ∧ l.Bulk ≤ 1048576
 n : 1 ≤ l.Line ∧ l.Line ≤ 65536

def limM (l : api.Limits) : api.Limits := { Args := if 65536 < (if l.Args < 1 then 1 else l.Args) then 65536 else (if l.Args < 1 then 1 else l.Args), Bulk := if 1048576 < (if l.Bulk < 1 then 1 else l.Bulk) then 1048576 else (if l.Bulk < 1 then 1 else l.Bulk), Line := if 65536 < (if l.Line < 1 then 1 else l.Line) then 65536 else (if l.Line < 1 then 1 else l.Line) }
theorem Limits_eq (l : api.Limits) : parse.Limits l = some (limM l) := rfl
theorem limM_good (l : api.Limits) : GoodL (limM l) := by
 constructor
 ·show 1 ≤ (if 65536 < (if l.Args < 1 then 1 else l.Args) then 65536 else (if l.Args < 1 then 1 else l.Args)) ∧ _ ≤ _
  show _ ∧ (if 65536 < (if l.Args < 1 then 1 else l.Args) then 65536 else (if l.Args < 1 then 1 else l.Args)) ≤ 65536
  split <;> split <;> omega
 ·show 1 ≤ (if 1048576 < (if l.Bulk < 1 then 1 else l.Bulk) then 1048576 else (if l.Bulk < 1 then 1 else l.Bulk)) ∧ _ ≤ _
  show _ ∧ (if 1048576 < (if l.Bulk < 1 then 1 else l.Bulk) then 1048576 else (if l.Bulk < 1 then 1 else l.Bulk)) ≤ 1048576
  split <;> split <;> omega
 ·show 1 ≤ (if 65536 < (if l.Line < 1 then 1 else l.Line) then 65536 else (if l.Line < 1 then 1 else l.Line)) ∧ _ ≤ _
  show _ ∧ (if 65536 < (if l.Line < 1 then 1 else l.Line) then 65536 else (if l.Line < 1 then 1 else l.Line)) ≤ 65536
  split <;> split <;> omega
theorem between_eq (n most : Int) (h : 1 ≤ most) : mewsref05.between n most = some (if most < (if n < 1 then 1 else n) then most else (if n < 1 then 1 else n)) := by
 unfold mewsref05.between
 by_cases h1 : n < 1
 ·rw [if_pos h1, if_pos h1, if_neg (by omega)]
 ·rw [if_neg h1, if_neg h1]; split <;> rfl
theorem rLimits_eq (l : api.Limits) : mewsref05.Limits l = some (limM l) := by
 unfold mewsref05.Limits
 rw [between_eq _ _ (by omega), between_eq _ _ (by omega), between_eq _ _ (by omega)]
 rfl

/-! ### The line's end -/
def nlN (s : List UInt8) : Nat := (s.takeWhile fun c => decide (c ≠ 10)).length
theorem nlN_le (s : List UInt8) : nlN s ≤ s.length := by
 have := congrArg List.length (List.takeWhile_append_dropWhile (p := fun c : UInt8 => decide (c ≠ 10)) (l := s))
 simp only [List.length_append] at this
 unfold nlN; omega
theorem nlN_cons_nl (t : List UInt8) : nlN (10 :: t) = 0 := by simp [nlN]
theorem nlN_cons {c : UInt8} (t : List UInt8) (h : c ≠ 10) : nlN (c :: t) = nlN t + 1 := by simp [nlN, h]
theorem nlN_at : ∀ {s : List UInt8} {i : Nat} (hi : i < s.length), (i < nlN s → s[i] ≠ 10) ∧ (i = nlN s → s[i] = 10)
 | [], i, hi => by simp at hi
 | c :: t, i, hi => by
  by_cases hc : c = 10
  ·subst hc
   rw [nlN_cons_nl]
   refine ⟨fun h => by omega, fun h => ?_⟩
   subst h; rfl
  ·rw [nlN_cons t hc]
   cases i with
   | zero => exact ⟨fun _ => by simpa using hc, fun h => by omega⟩
   | succ i =>
    have ih := nlN_at (s := t) (i := i) (by simpa using hi)
    exact ⟨fun h => by simpa using ih.1 (by omega), fun h => by simpa using ih.2 (by omega)⟩

theorem indexByte_eq : ∀ (s : List UInt8), Lib.indexByte s 10 = if nlN s < s.length then (nlN s : Int) else -1
 | [] => rfl
 | c :: t => by
  have ih := indexByte_eq t
  have hle := nlN_le t
  by_cases hc : c = 10
  ·subst hc
   rw [nlN_cons_nl, if_pos (by simp)]
   simp [Lib.indexByte]
  ·rw [nlN_cons t hc]
   have : Lib.indexByte (c :: t) 10 = if Lib.indexByte t 10 = -1 then -1 else Lib.indexByte t 10 + 1 := by
    simp [Lib.indexByte, hc]
   rw [this, ih]
   by_cases h : nlN t < t.length
   ·rw [if_pos h, if_neg (by omega), if_pos (by simp; omega)]; omega
   ·rw [if_neg h, if_pos rfl, if_neg (by simp; omega)]

def trimM (t : List UInt8) : List UInt8 := if t.getLast? = some 13 then t.dropLast else t
theorem trimM_len (t : List UInt8) : (trimM t).length ≤ t.length := by unfold trimM; split <;> simp

theorem last_sub (t : List UInt8) (h : 0 < t.length) : sub t ((t.length : Int) - 1) (t.length : Int) = [t[t.length - 1]] := by
 rw [sub_all, show ((t.length : Int) - 1).toNat = t.length - 1 by omega]
 rw [List.drop_eq_getElem_cons (by omega), List.drop_of_length_le (by omega)]
theorem getLast_get (t : List UInt8) (h : 0 < t.length) : t.getLast? = some t[t.length - 1] := by
 rw [List.getLast?_eq_getElem?, List.getElem?_eq_getElem (by omega)]

theorem Trim_eq (t : List UInt8) (h : t.length ≤ 1000000000) : strings.TrimSuffix t [13] = some (trimM t) := by
 unfold strings.TrimSuffix stringslite.TrimSuffix stringslite.HasSuffix
 have e1 : (([13] : List UInt8).length : Int) = 1 := rfl
 rw [e1]
 by_cases h0 : 0 < t.length
 ·rw [if_pos (by omega), i64w (by omega) (by omega), need_eq ⟨by omega, by omega, by omega⟩, last_sub t h0]
  simp only [Option.bind_some, decide_eq_true_eq]
  by_cases hc : t[t.length - 1] = 13
  ·rw [if_pos (by rw [hc]), need_eq ⟨by omega, by omega, by omega⟩]
   simp only [Option.bind_some, trimM]
   rw [if_pos (by rw [getLast_get t h0, hc]), sub_zero, List.dropLast_eq_take, show ((t.length : Int) - 1).toNat = t.length - 1 by omega]
  ·rw [if_neg (by simpa using hc)]
   simp only [Option.bind_some, trimM]
   rw [if_neg (by rw [getLast_get t h0]; simpa using hc)]
 ·have : t = [] := List.length_eq_zero_iff.1 (by omega)
  subst this
  rfl

inductive LR where
 | more
 | dead (e : Int)
 | ok (args : List (List UInt8)) (n : Nat)

def lineM (s : List UInt8) (l : api.Limits) : LR :=
 if nlN s < s.length then
  if l.Line < (nlN s : Int) then .dead 6
  else match splitM (trimM (s.take (nlN s))) [] with
   | none => .dead 16
   | some args => if l.Args < (args.length : Int) then .dead 7 else if (args.any fun x => decide (l.Bulk < (x.length : Int))) = true then .dead 6 else .ok args (nlN s)
 else if l.Line < (s.length : Int) then .dead 6 else .more

theorem lineM_ok {s : List UInt8} {l : api.Limits} {args : List (List UInt8)} {n : Nat} (h : lineM s l = .ok args n) : n < s.length ∧ n = nlN s ∧ (args.length : Int) ≤ l.Args := by
 unfold lineM at h
 split at h
 ·rename_i h1
  split at h
  ·cases h
  ·split at h
   ·cases h
   ·split at h
    ·cases h
    ·split at h
     ·cases h
     ·rename_i h5 _
      simp only [LR.ok.injEq] at h
      obtain ⟨rfl, rfl⟩ := h
      exact ⟨h1, rfl, by omega⟩
 ·split at h <;> cases h

def wholeP (args : List (List UInt8)) (p : parse.parser) : parse.parser := { p with in_ := emptyIn, out := if args ≠ [] then p.out ++ [({ Args := args, Size := p.in_.Size } : api.Request)] else p.out }
theorem whole_eq (args : List (List UInt8)) (p : parse.parser) (h : p.out.length ≤ 1000000000) : parse.parser.whole args p = some (wholeP args p) := by
 unfold parse.parser.whole wholeP
 cases args with
 | nil => rfl
 | cons a args =>
  rw [if_pos (by simp), need_eq (by simp only [List.length_singleton]; omega)]
  rw [if_pos (by simp)]
  rfl

def lineP (r : LR) (p : parse.parser) : Bool × parse.parser :=
 match r with
 | .more => (false, p)
 | .dead e => (false, deadP p e)
 | .ok args n => (true, wholeP args (pastP p (n + 1)))

theorem splitM_count : ∀ (n : Nat) (t : List UInt8) (out o : List (List UInt8)), t.length ≤ n → splitM t out = some o → o.length ≤ out.length + t.length
 | n, t, out, o, hn, h => by
  have hd := (sfx_dropWhile t blankB).len
  cases h1 : t.dropWhile blankB with
  | nil => rw [splitM_end h1] at h; injection h with h; subst h; omega
  | cons c u =>
   rw [h1] at hd
   cases h2 : argM (c :: u) [] with
   | none => rw [splitM_bad h1 h2] at h; cases h
   | some q =>
    obtain ⟨b, t'⟩ := q
    rw [splitM_next h1 h2] at h
    obtain ⟨g1, g2, g3, g4⟩ := argM_some (Nat.le_refl _) h2
    have g5 : t'.length < (c :: u).length := g4.resolve_left (by simpa [endsB] using dropWhile_head h1)
    match n, hn with
    | 0, hn => simp at g5 hd; omega
    | n + 1, hn =>
     have := splitM_count n t' (out ++ [b]) o (by omega) h
     simp at this; omega

theorem Contains_line (args : List (List UInt8)) (p : parse.parser) (h : args.length ≤ 1000000000) : slices.ContainsFunc_string_parse_parser_line_1 args p = some (args.any fun x => decide (p.l.Bulk < (x.length : Int))) := by
 unfold slices.ContainsFunc_string_parse_parser_line_1 slices.IndexFunc_string_parse_parser_line_1 slices.IndexFunc_string_parse_parser_line_1.loop0
 rw [whileO_idxE ⟨0⟩ (fun i => (⟨(i : Int)⟩ : slices.IndexFunc_string_parse_parser_line_1.S0)) args (fun x => decide (p.l.Bulk < (x.length : Int))) (fun i => .inr (i : Int)) (.inl ()) ?_ ?_]
 ·rw [← idxF_isSome (p := fun x : List UInt8 => decide (p.l.Bulk < (x.length : Int))) (j := 0)]
  cases idxF (fun x : List UInt8 => decide (p.l.Bulk < (x.length : Int))) args 0 with
  | none => simp [onSum]
  | some i => simp [onSum]
 ·intro i hi
  unfold slices.IndexFunc_string_parse_parser_line_1.body0 parse.parser.line_1
  simp only
  rw [if_pos (by omega), need_eq ⟨by omega, by omega⟩, ix_get hi, i64w (by omega) (by omega)]
  simp only [Option.bind_some]
  split <;> simp
 ·unfold slices.IndexFunc_string_parse_parser_line_1.body0
  simp

theorem line_eq (p : parse.parser) (hl : GoodL p.l) (hs : p.s.length ≤ 1000000000) (h0 : 0 ≤ p.in_.Size) (hz : p.in_.Size ≤ 1000000000) (ho : p.out.length ≤ 1000000000) :
  parse.parser.line p = some (lineP (lineM p.s p.l) p) := by
 have hle := nlN_le p.s
 have hn := hl.n
 have e0 : strings.IndexByte p.s 10 = some (if nlN p.s < p.s.length then (nlN p.s : Int) else -1) := by
  unfold strings.IndexByte stringslite.IndexByte
  simp only [Option.bind_some]
  rw [show u8 10 = (10 : UInt8) from rfl, indexByte_eq]
 unfold parse.parser.line lineM
 rw [e0]
 simp only [Option.bind_some, letO]
 by_cases h1 : nlN p.s < p.s.length
 ·rw [if_pos h1, if_pos h1, if_neg (show ¬ ((nlN p.s : Int) < 0) by omega)]
  by_cases h2 : p.l.Line < (nlN p.s : Int)
  ·rw [decide_eq_true h2, if_pos rfl, if_pos h2, dies_eq]; rfl
  ·rw [decide_eq_false h2, if_neg h2]
   simp only [Bool.false_eq_true, if_false]
   have htl : (p.s.take (nlN p.s)).length = nlN p.s := by simp; omega
   have htr := trimM_len (p.s.take (nlN p.s))
   rw [if_neg (by omega), need_eq ⟨by omega, by omega, by omega⟩, sub_zero, Int.toNat_natCast, Trim_eq _ (by omega), Option.bind_some, Split_eq _ (by omega), Option.bind_some]
   cases hsp : splitM (trimM (p.s.take (nlN p.s))) [] with
   | none => rfl
   | some args =>
    have hac := splitM_count _ _ _ _ (Nat.le_refl _) hsp
    simp only [List.length_nil] at hac
    simp only [Bool.not_true, Bool.false_eq_true, if_false]
    by_cases h3 : p.l.Args < (args.length : Int)
    ·rw [if_pos h3, if_pos h3, dies_eq]; rfl
    ·rw [if_neg h3, if_neg h3, Contains_line _ _ (by omega)]
     simp only [Option.bind_some]
     by_cases h4 : (args.any fun x => decide (p.l.Bulk < (x.length : Int))) = true
     ·rw [if_pos h4, if_pos h4, dies_eq]; rfl
     ·rw [if_neg h4, if_neg h4, i64w (by omega) (by omega), show (nlN p.s : Int) + 1 = ((nlN p.s + 1 : Nat) : Int) by omega, past_eq _ _ (by omega) h0 (by omega), Option.bind_some, whole_eq args (pastP p (nlN p.s + 1)) ho]
      rfl
 ·rw [if_neg h1, if_neg h1]
  simp only [if_pos (show (-1 : Int) < 0 by omega)]
  by_cases h2 : p.l.Line < (p.s.length : Int)
  ·simp only [if_pos h2, if_true]; rfl
  ·simp only [if_neg h2]
   rw [decide_eq_false (by omega)]
   rfl

def lineR (r : LR) (s : List UInt8) : api.Input × Int :=
 match r with
 | .more => ({ emptyIn with Rest := s }, -1)
 | .dead e => (emptyIn, e)
 | .ok args n => ({ emptyIn with Args := args, Size := (n : Int) + 1 }, 0)

theorem rOne_eq (s : List UInt8) (l : api.Limits) (hl : GoodL l) (hs : s.length ≤ 1000000000) : mewsref05.one s l = some (lineR (lineM s l) s) := by
 have hle := nlN_le s
 obtain ⟨hn1, hn2⟩ := hl.n
 have hgt : ∀ i : Nat, i < s.length → (i : Int) ≤ l.Line → (if (i : Int) < (s.length : Int) then decide ((i : Int) ≤ l.Line) else false) = true := by
  intro i h1 h2; rw [if_pos (by omega), decide_eq_true h2]
 have hgf : ∀ i : Nat, (¬ i < s.length ∨ ¬ (i : Int) ≤ l.Line) → (if (i : Int) < (s.length : Int) then decide ((i : Int) ≤ l.Line) else false) = false := by
  intro i h
  by_cases h1 : (i : Int) < (s.length : Int)
  ·rw [if_pos h1, decide_eq_false (by omega)]
  ·rw [if_neg h1]
 -- the body where there is no line's end
 have hskip : ∀ i : Nat, i < nlN s → i < s.length → (i : Int) ≤ l.Line → mewsref05.one.body0 s l ⟨(i : Int)⟩ = some (.inl ⟨((i + 1 : Nat) : Int)⟩) := by
  intro i h1 h2 h3
  have := (nlN_at h2).1 h1
  unfold mewsref05.one.body0
  simp only [letO]
  rw [hgt i h2 h3, if_pos rfl, need_eq ⟨by omega, by omega⟩, bix_get' h2, if_neg (show ¬ (s[i].toNat : Int) = 10 from fun e => this ((toNat_eq_iff _ 10).1 e))]
  simp only [Option.bind_some, onSum]
  rw [i64w (by omega) (by omega), show (i : Int) + 1 = ((i + 1 : Nat) : Int) by omega]
 unfold mewsref05.one lineM
 by_cases h1 : nlN s < s.length
 ·rw [if_pos h1]
  by_cases h2 : l.Line < (nlN s : Int)
  ·rw [if_pos h2]
   have hloop : mewsref05.one.loop0 s l ⟨0⟩ = some (.inl ()) := by
    unfold mewsref05.one.loop0
    refine whileO_knownE ⟨0⟩ (fun i => (⟨(i : Int)⟩ : mewsref05.one.S0)) (l.Line.toNat + 1) (fun i hi => hskip i (by omega) (by omega) (by omega)) ?_
    unfold mewsref05.one.body0
    simp only [letO]
    rw [hgf _ (.inr (by omega))]
    rfl
   rw [hloop]
   simp only [Option.bind_some, onSum]
   rw [if_pos (by omega)]
   rfl
  ·rw [if_neg h2]
   have hat := (nlN_at h1).2 rfl
   have htl : (s.take (nlN s)).length = nlN s := by simp; omega
   have htr := trimM_len (s.take (nlN s))
   have htrim : (
     (
      if 0 < (nlN s : Int) then
       need (InB (IntKind.wrap .i64 ((nlN s : Int) - 1)) (s.take (nlN s)).length) <|
       some (decide ((bix (s.take (nlN s)) (IntKind.wrap .i64 ((nlN s : Int) - 1))) = 13))
      else
       some false).bind fun s1644 =>
     if s1644 = true then
      need (InR 0 (IntKind.wrap .i64 ((nlN s : Int) - 1)) (s.take (nlN s)).length) <|
      some (sub (s.take (nlN s)) 0 (IntKind.wrap .i64 ((nlN s : Int) - 1)))
     else
      some (s.take (nlN s))) = some (trimM (s.take (nlN s))) := by
    by_cases h0 : 0 < nlN s
    ·have hg := getLast_get (s.take (nlN s)) (by omega)
     simp only [htl] at hg
     rw [if_pos (by omega), i64w (by omega) (by omega), need_eq ⟨by omega, by omega⟩, show (nlN s : Int) - 1 = ((nlN s - 1 : Nat) : Int) by omega, bix_get' (by omega)]
     simp only [Option.bind_some, decide_eq_true_eq]
     unfold trimM
     by_cases hc : (s.take (nlN s))[nlN s - 1]'(by omega) = 13
     ·rw [if_pos (by rw [hc]; rfl), if_pos (by rw [hg, hc]), need_eq ⟨by omega, by omega, by omega⟩, sub_zero, Int.toNat_natCast, List.dropLast_eq_take, htl]
     ·rw [if_neg (show ¬ (((s.take (nlN s))[nlN s - 1]'(by omega)).toNat : Int) = 13 from fun e => hc ((toNat_eq_iff _ 13).1 e)), if_neg (by rw [hg]; simpa using hc)]
    ·rw [if_neg (by omega)]
     have : s.take (nlN s) = [] := by rw [show nlN s = 0 by omega]; rfl
     rw [this]; rfl
   have hbody : ∀ X : api.Input × Int, (match splitM (trimM (s.take (nlN s))) [] with
     | none => X = (emptyIn, 16)
     | some args => if l.Args < (args.length : Int) then X = (emptyIn, 7) else if (args.any fun x => decide (l.Bulk < (x.length : Int))) = true then X = (emptyIn, 6) else X = ({ emptyIn with Args := args, Size := (nlN s : Int) + 1 }, 0)) →
     mewsref05.one.body0 s l ⟨(nlN s : Int)⟩ = some (.inr (.inr X)) := by
    intro X hX
    unfold mewsref05.one.body0
    simp only [letO]
    rw [hgt _ h1 (by omega), if_pos rfl, need_eq ⟨by omega, by omega⟩, bix_get' h1, hat, if_pos (by rfl), need_eq ⟨by omega, by omega, by omega⟩, sub_zero, Int.toNat_natCast, htrim]
    simp only [Option.bind_some]
    rw [rSplit_eq _ (by omega)]
    simp only [Option.bind_some]
    cases hsp : splitM (trimM (s.take (nlN s))) [] with
    | none => rw [hsp] at hX; simp only at hX; rw [hX]; rfl
    | some args =>
     rw [hsp] at hX
     have hac := splitM_count _ _ _ _ (Nat.le_refl _) hsp
     simp only [List.length_nil] at hac
     simp only [Bool.not_true, Bool.false_eq_true, if_false] at hX ⊢
     by_cases h3 : l.Args < (args.length : Int)
     ·rw [if_pos h3] at hX ⊢; rw [hX]; rfl
     ·rw [if_neg h3] at hX ⊢
      have hl2 : mewsref05.one.loop2 (args, true) l ⟨0⟩ = some (if (args.any fun x => decide (l.Bulk < (x.length : Int))) = true then .inr (.inr (.inr (.inr (emptyIn, 6)))) else .inl ()) := by
       unfold mewsref05.one.loop2
       rw [whileO_idxE ⟨0⟩ (fun i => (⟨(i : Int)⟩ : mewsref05.one.S2)) args (fun x => decide (l.Bulk < (x.length : Int))) (fun i => .inr (.inr (.inr (.inr (emptyIn, 6))))) (.inl ()) ?_ ?_]
       ·rw [← idxF_isSome (p := fun x : List UInt8 => decide (l.Bulk < (x.length : Int))) (j := 0)]
        cases idxF (fun x : List UInt8 => decide (l.Bulk < (x.length : Int))) args 0 <;> simp
       ·intro i hi
        unfold mewsref05.one.body2
        simp only
        rw [if_pos (by omega), need_eq ⟨by omega, by omega⟩, ix_get hi, i64w (by omega) (by omega)]
        simp only [decide_eq_true_eq]
        split <;> simp
       ·unfold mewsref05.one.body2
        simp
      rw [hl2]
      by_cases h4 : (args.any fun x => decide (l.Bulk < (x.length : Int))) = true
      ·rw [if_pos h4] at hX ⊢; rw [hX]; rfl
      ·rw [if_neg h4] at hX ⊢
       rw [hX]
       simp only [Option.bind_some, onSum]
       rw [i64w (by omega) (by omega)]
   have hloop : ∀ X, mewsref05.one.body0 s l ⟨(nlN s : Int)⟩ = some (.inr (.inr X)) → mewsref05.one.loop0 s l ⟨0⟩ = some (.inr X) := by
    intro X hX
    unfold mewsref05.one.loop0
    exact whileO_knownE ⟨0⟩ (fun i => (⟨(i : Int)⟩ : mewsref05.one.S0)) (nlN s) (fun i hi => hskip i hi (by omega) (by omega)) hX
   cases hsp : splitM (trimM (s.take (nlN s))) [] with
   | none =>
    rw [hloop (emptyIn, 16) (hbody _ (by rw [hsp]))]
    rfl
   | some args =>
    simp only
    by_cases h3 : l.Args < (args.length : Int)
    ·rw [hloop (emptyIn, 7) (hbody _ (by rw [hsp]; simp only; rw [if_pos h3]; trivial)), if_pos h3]; rfl
    ·rw [if_neg h3]
     by_cases h4 : (args.any fun x => decide (l.Bulk < (x.length : Int))) = true
     ·rw [hloop (emptyIn, 6) (hbody _ (by rw [hsp]; simp only; rw [if_neg h3, if_pos h4]; trivial)), if_pos h4]; rfl
     ·rw [hloop ({ emptyIn with Args := args, Size := (nlN s : Int) + 1 }, 0) (hbody _ (by rw [hsp]; simp only; rw [if_neg h3, if_neg h4]; trivial)), if_neg h4]; rfl
 ·rw [if_neg h1]
  have hnl : nlN s = s.length := by omega
  by_cases h2 : l.Line < (s.length : Int)
  ·have hloop : mewsref05.one.loop0 s l ⟨0⟩ = some (.inl ()) := by
    unfold mewsref05.one.loop0
    refine whileO_knownE ⟨0⟩ (fun i => (⟨(i : Int)⟩ : mewsref05.one.S0)) (l.Line.toNat + 1) (fun i hi => hskip i (by omega) (by omega) (by omega)) ?_
    unfold mewsref05.one.body0
    simp only [letO]
    rw [hgf _ (.inr (by omega))]
    rfl
   rw [hloop]
   simp only [Option.bind_some, onSum]
   rw [if_pos h2, if_pos h2]
   rfl
  ·have hloop : mewsref05.one.loop0 s l ⟨0⟩ = some (.inl ()) := by
    unfold mewsref05.one.loop0
    refine whileO_knownE ⟨0⟩ (fun i => (⟨(i : Int)⟩ : mewsref05.one.S0)) s.length (fun i hi => hskip i (by omega) (by omega) (by omega)) ?_
    unfold mewsref05.one.body0
    simp only [letO]
    rw [hgf _ (.inl (by omega))]
    rfl
   rw [hloop]
   simp only [Option.bind_some, onSum]
   rw [if_neg h2, if_neg h2]
   rfl

end Go.Pu
