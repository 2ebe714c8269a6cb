import Derived.Test.YtakmcdnailmhlaaPTPuSplit3
set_option maxRecDepth 100000
namespace Go.Pu
open Go.Lift

abbrev emptyIn : api.Input := { Rest := [], Args := [], Left := 0, Size := 0, Body := false, Need := 0, Dead := 0 }

/-- Limits that may be. -/
structure GoodL (l : api.Limits) : Prop where
 a : 1 ≤ l.Args ∧ l.Args ≤ 65536
 b : 1 ≤ l.Bulk ∧ l.Bulk ≤ 1048576
 n : 1 ≤ l.Line ∧ l.Line ≤ 65536

def limM (l : api.Limits) : api.Limits := { Args := if 65536 < (if l.Args < 1 then 1 else l.Args) then 65536 else (if l.Args < 1 then 1 else l.Args), Bulk := if 1048576 < (if l.Bulk < 1 then 1 else l.Bulk) then 1048576 else (if l.Bulk < 1 then 1 else l.Bulk), Line := if 65536 < (if l.Line < 1 then 1 else l.Line) then 65536 else (if l.Line < 1 then 1 else l.Line) }
theorem Limits_eq (l : api.Limits) : parse.Limits l = some (limM l) := rfl
theorem limM_good (l : api.Limits) : GoodL (limM l) := by
 constructor
 ·show 1 ≤ (if 65536 < (if l.Args < 1 then 1 else l.Args) then 65536 else (if l.Args < 1 then 1 else l.Args)) ∧ _ ≤ _
  show _ ∧ (if 65536 < (if l.Args < 1 then 1 else l.Args) then 65536 else (if l.Args < 1 then 1 else l.Args)) ≤ 65536
  split <;> split <;> omega
 ·show 1 ≤ (if 1048576 < (if l.Bulk < 1 then 1 else l.Bulk) then 1048576 else (if l.Bulk < 1 then 1 else l.Bulk)) ∧ _ ≤ _
  show _ ∧ (if 1048576 < (if l.Bulk < 1 then 1 else l.Bulk) then 1048576 else (if l.Bulk < 1 then 1 else l.Bulk)) ≤ 1048576
  split <;> split <;> omega
 ·show 1 ≤ (if 65536 < (if l.Line < 1 then 1 else l.Line) then 65536 else (if l.Line < 1 then 1 else l.Line)) ∧ _ ≤ _
  show _ ∧ (if 65536 < (if l.Line < 1 then 1 else l.Line) then 65536 else (if l.Line < 1 then 1 else l.Line)) ≤ 65536
  split <;> split <;> omega
/-! ### The line's end -/
def nlN (s : List UInt8) : Nat := (s.takeWhile fun c => decide (c ≠ 10)).length
theorem nlN_le (s : List UInt8) : nlN s ≤ s.length := by
 have := congrArg List.length (List.takeWhile_append_dropWhile (p := fun c : UInt8 => decide (c ≠ 10)) (l := s))
 simp only [List.length_append] at this
 unfold nlN; omega
theorem nlN_cons_nl (t : List UInt8) : nlN (10 :: t) = 0 := by simp [nlN]
theorem nlN_cons {c : UInt8} (t : List UInt8) (h : c ≠ 10) : nlN (c :: t) = nlN t + 1 := by simp [nlN, h]
theorem indexByte_eq : ∀ (s : List UInt8), Lib.indexByte s 10 = if nlN s < s.length then (nlN s : Int) else -1
 | [] => rfl
 | c :: t => by
  have ih := indexByte_eq t
  have hle := nlN_le t
  by_cases hc : c = 10
  ·subst hc
   rw [nlN_cons_nl, if_pos (by simp)]
   simp [Lib.indexByte]
  ·rw [nlN_cons t hc]
   have : Lib.indexByte (c :: t) 10 = if Lib.indexByte t 10 = -1 then -1 else Lib.indexByte t 10 + 1 := by
    simp [Lib.indexByte, hc]
   rw [this, ih]
   by_cases h : nlN t < t.length
   ·rw [if_pos h, if_neg (by omega), if_pos (by simp; omega)]; omega
   ·rw [if_neg h, if_pos rfl, if_neg (by simp; omega)]

def trimM (t : List UInt8) : List UInt8 := if t.getLast? = some 13 then t.dropLast else t
theorem trimM_len (t : List UInt8) : (trimM t).length ≤ t.length := by unfold trimM; split <;> simp

theorem last_sub (t : List UInt8) (h : 0 < t.length) : sub t ((t.length : Int) - 1) (t.length : Int) = [t[t.length - 1]] := by
 rw [sub_all, show ((t.length : Int) - 1).toNat = t.length - 1 by omega]
 rw [List.drop_eq_getElem_cons (by omega), List.drop_of_length_le (by omega)]
theorem getLast_get (t : List UInt8) (h : 0 < t.length) : t.getLast? = some t[t.length - 1] := by
 rw [List.getLast?_eq_getElem?, List.getElem?_eq_getElem (by omega)]

theorem Trim_eq (t : List UInt8) (h : t.length ≤ 1000000000) : strings.TrimSuffix t [13] = some (trimM t) := by
 unfold strings.TrimSuffix stringslite.TrimSuffix stringslite.HasSuffix
 have e1 : (([13] : List UInt8).length : Int) = 1 := rfl
 rw [e1]
 by_cases h0 : 0 < t.length
 ·rw [if_pos (by omega), i64w (by omega) (by omega), need_eq ⟨by omega, by omega, by omega⟩, last_sub t h0]
  simp only [Option.bind_some, decide_eq_true_eq]
  by_cases hc : t[t.length - 1] = 13
  ·rw [if_pos (by rw [hc]), need_eq ⟨by omega, by omega, by omega⟩]
   simp only [Option.bind_some, trimM]
   rw [if_pos (by rw [getLast_get t h0, hc]), sub_zero, List.dropLast_eq_take, show ((t.length : Int) - 1).toNat = t.length - 1 by omega]
  ·rw [if_neg (by simpa using hc)]
   simp only [Option.bind_some, trimM]
   rw [if_neg (by rw [getLast_get t h0]; simpa using hc)]
 ·have : t = [] := List.length_eq_zero_iff.1 (by omega)
  subst this
  rfl

inductive LR where
 | more
 | dead (e : Int)
 | ok (args : List (List UInt8)) (n : Nat)

def lineM (s : List UInt8) (l : api.Limits) : LR :=
 if nlN s < s.length then
  if l.Line < (nlN s : Int) then .dead 6
  else match splitM (trimM (s.take (nlN s))) [] with
   | none => .dead 16
   | some args => if l.Args < (args.length : Int) then .dead 7 else if (args.any fun x => decide (l.Bulk < (x.length : Int))) = true then .dead 6 else .ok args (nlN s)
 else if l.Line < (s.length : Int) then .dead 6 else .more

theorem lineM_ok {s : List UInt8} {l : api.Limits} {args : List (List UInt8)} {n : Nat} (h : lineM s l = .ok args n) : n < s.length ∧ n = nlN s ∧ (args.length : Int) ≤ l.Args := by
 unfold lineM at h
 split at h
 ·rename_i h1
  split at h
  ·cases h
  ·split at h
   ·cases h
   ·split at h
    ·cases h
    ·split at h
     ·cases h
     ·rename_i h5 _
      simp only [LR.ok.injEq] at h
      obtain ⟨rfl, rfl⟩ := h
      exact ⟨h1, rfl, by omega⟩
 ·split at h <;> cases h

def wholeP (args : List (List UInt8)) (p : parse.parser) : parse.parser := { p with in_ := emptyIn, out := if args ≠ [] then p.out ++ [({ Args := args, Size := p.in_.Size } : api.Request)] else p.out }
theorem whole_eq (args : List (List UInt8)) (p : parse.parser) (h : p.out.length ≤ 1000000000) : parse.parser.whole args p = some (wholeP args p) := by
 unfold parse.parser.whole wholeP
 cases args with
 | nil => rfl
 | cons a args =>
  rw [if_pos (by simp), need_eq (by simp only [List.length_singleton]; omega)]
  rw [if_pos (by simp)]
  rfl

def lineP (r : LR) (p : parse.parser) : Bool × parse.parser :=
 match r with
 | .more => (false, p)
 | .dead e => (false, deadP p e)
 | .ok args n => (true, wholeP args (pastP p (n + 1)))

theorem splitM_count : ∀ (n : Nat) (t : List UInt8) (out o : List (List UInt8)), t.length ≤ n → splitM t out = some o → o.length ≤ out.length + t.length
 | n, t, out, o, hn, h => by
  have hd := (sfx_dropWhile t blankB).len
  cases h1 : t.dropWhile blankB with
  | nil => rw [splitM_end h1] at h; injection h with h; subst h; omega
  | cons c u =>
   rw [h1] at hd
   cases h2 : argM (c :: u) [] with
   | none => rw [splitM_bad h1 h2] at h; cases h
   | some q =>
    obtain ⟨b, t'⟩ := q
    rw [splitM_next h1 h2] at h
    obtain ⟨g1, g2, g3, g4⟩ := argM_some (Nat.le_refl _) h2
    have g5 : t'.length < (c :: u).length := g4.resolve_left (by simpa [endsB] using dropWhile_head h1)
    match n, hn with
    | 0, hn => simp at g5 hd; omega
    | n + 1, hn =>
     have := splitM_count n t' (out ++ [b]) o (by omega) h
     simp at this; omega

theorem Contains_line (args : List (List UInt8)) (p : parse.parser) (h : args.length ≤ 1000000000) : slices.ContainsFunc_string_parse_parser_line_1 args p = some (args.any fun x => decide (p.l.Bulk < (x.length : Int))) := by
 unfold slices.ContainsFunc_string_parse_parser_line_1 slices.IndexFunc_string_parse_parser_line_1 slices.IndexFunc_string_parse_parser_line_1.loop0
 rw [whileO_idxE ⟨0⟩ (fun i => (⟨(i : Int)⟩ : slices.IndexFunc_string_parse_parser_line_1.S0)) args (fun x => decide (p.l.Bulk < (x.length : Int))) (fun i => .inr (i : Int)) (.inl ()) ?_ ?_]
 ·rw [← idxF_isSome (p := fun x : List UInt8 => decide (p.l.Bulk < (x.length : Int))) (j := 0)]
  cases idxF (fun x : List UInt8 => decide (p.l.Bulk < (x.length : Int))) args 0 with
  | none => simp [onSum]
  | some i => simp [onSum]
 ·intro i hi
  unfold slices.IndexFunc_string_parse_parser_line_1.body0 parse.parser.line_1
  simp only
  rw [if_pos (by omega), need_eq ⟨by omega, by omega⟩, ix_get hi, i64w (by omega) (by omega)]
  simp only [Option.bind_some]
  split <;> simp
 ·unfold slices.IndexFunc_string_parse_parser_line_1.body0
  simp

theorem line_eq (p : parse.parser) (hl : GoodL p.l) (hs : p.s.length ≤ 1000000000) (h0 : 0 ≤ p.in_.Size) (hz : p.in_.Size ≤ 1000000000) (ho : p.out.length ≤ 1000000000) :
  parse.parser.line p = some (lineP (lineM p.s p.l) p) := by
 have hle := nlN_le p.s
 have hn := hl.n
 have e0 : strings.IndexByte p.s 10 = some (if nlN p.s < p.s.length then (nlN p.s : Int) else -1) := by
  unfold strings.IndexByte stringslite.IndexByte
  simp only [Option.bind_some]
  rw [show u8 10 = (10 : UInt8) from rfl, indexByte_eq]
 unfold parse.parser.line lineM
 rw [e0]
 simp only [Option.bind_some, letO]
 by_cases h1 : nlN p.s < p.s.length
 ·rw [if_pos h1, if_pos h1, if_neg (show ¬ ((nlN p.s : Int) < 0) by omega)]
  by_cases h2 : p.l.Line < (nlN p.s : Int)
  ·rw [decide_eq_true h2, if_pos rfl, if_pos h2, dies_eq]; rfl
  ·rw [decide_eq_false h2, if_neg h2]
   simp only [Bool.false_eq_true, if_false]
   have htl : (p.s.take (nlN p.s)).length = nlN p.s := by simp; omega
   have htr := trimM_len (p.s.take (nlN p.s))
   rw [if_neg (by omega), need_eq ⟨by omega, by omega, by omega⟩, sub_zero, Int.toNat_natCast, Trim_eq _ (by omega), Option.bind_some, Split_eq _ (by omega), Option.bind_some]
   cases hsp : splitM (trimM (p.s.take (nlN p.s))) [] with
   | none => rfl
   | some args =>
    have hac := splitM_count _ _ _ _ (Nat.le_refl _) hsp
    simp only [List.length_nil] at hac
    simp only [Bool.not_true, Bool.false_eq_true, if_false]
    by_cases h3 : p.l.Args < (args.length : Int)
    ·rw [if_pos h3, if_pos h3, dies_eq]; rfl
    ·rw [if_neg h3, if_neg h3, Contains_line _ _ (by omega)]
     simp only [Option.bind_some]
     by_cases h4 : (args.any fun x => decide (p.l.Bulk < (x.length : Int))) = true
     ·rw [if_pos h4, if_pos h4, dies_eq]; rfl
     ·rw [if_neg h4, if_neg h4, i64w (by omega) (by omega), show (nlN p.s : Int) + 1 = ((nlN p.s + 1 : Nat) : Int) by omega, past_eq _ _ (by omega) h0 (by omega), Option.bind_some, whole_eq args (pastP p (nlN p.s + 1)) ho]
      rfl
 ·rw [if_neg h1, if_neg h1]
  simp only [if_pos (show (-1 : Int) < 0 by omega)]
  by_cases h2 : p.l.Line < (p.s.length : Int)
  ·simp only [if_pos h2, if_true]; rfl
  ·simp only [if_neg h2]
   rw [decide_eq_false (by omega)]
   rfl

end Go.Pu
