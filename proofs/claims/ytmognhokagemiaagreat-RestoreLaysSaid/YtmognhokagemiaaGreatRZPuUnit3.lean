import Derived.Test.YtmognhokagemiaaGreatRZPuUnit1
import Derived.Test.YtmognhokagemiaaGreatRZP
set_option maxRecDepth 100000
namespace Go.Pu
open Go.Lift

/-! ### How much a stream gives -/
theorem splitM_lenS : ∀ (n : Nat) (t : List UInt8) (out o : List (List UInt8)), t.length ≤ n → splitM t out = some o → lenS o ≤ lenS out + t.length
 | n, t, out, o, hn, h => by
  have hd := (sfx_dropWhile t blankB).len
  cases h1 : t.dropWhile blankB with
  | nil => rw [splitM_end h1] at h; injection h with h; subst h; omega
  | cons c u =>
   rw [h1] at hd
   cases h2 : argM (c :: u) [] with
   | none => rw [splitM_bad h1 h2] at h; cases h
   | some q =>
    obtain ⟨b, t'⟩ := q
    rw [splitM_next h1 h2] at h
    obtain ⟨g1, g2, g3, g4⟩ := argM_some (Nat.le_refl _) h2
    have g5 : t'.length < (c :: u).length := g4.resolve_left (by simpa [endsB] using dropWhile_head h1)
    match n, hn with
    | 0, hn => simp at g5 hd; omega
    | n + 1, hn =>
     have := splitM_lenS n t' (out ++ [b]) o (by omega) h
     rw [lenS_append] at this
     simp [lenS] at this g3
     simp at hd
     omega

theorem lineM_size {s : List UInt8} {l : api.Limits} {args : List (List UInt8)} {n : Nat} (h : lineM s l = .ok args n) : lenS args ≤ n ∧ args.length ≤ n := by
 unfold lineM at h
 split at h
 ·rename_i h1
  split at h
  ·cases h
  ·split at h
   ·cases h
   ·rename_i a ha
    split at h
    ·cases h
    ·split at h
     ·cases h
     ·simp only [LR.ok.injEq] at h
      obtain ⟨rfl, rfl⟩ := h
      have ht := trimM_len (s.take (nlN s))
      have htk : (s.take (nlN s)).length ≤ nlN s := by simp; omega
      have h2 := splitM_lenS _ _ _ _ (Nat.le_refl _) ha
      have h3 := splitM_count _ _ _ _ (Nat.le_refl _) ha
      simp [lenS] at h2 h3
      omega
 ·split at h <;> cases h

def argsOf (out : List api.Request) : Cmds := out.map fun r => r.Args
def wtP (p : parse.parser) : Nat := wtU (argsOf p.out) + lenS p.in_.Args + p.in_.Args.length + 3 * p.s.length

theorem argsOf_append (a b : List api.Request) : argsOf (a ++ b) = argsOf a ++ argsOf b := List.map_append

theorem stepP_wt (p : parse.parser) : wtP (stepP p).2 ≤ wtP p := by
 have hdead : ∀ e, wtP (deadP p e) ≤ wtP p := fun e => by
  show wtU (argsOf p.out) + lenS [] + 0 + 3 * 0 ≤ _
  unfold wtP; simp [lenS]; omega
 unfold stepP
 by_cases h1 : p.in_.Body = true
 ·rw [if_pos h1]
  cases hc : crlfM (p.s.drop (needN p)) with
  | more => exact Nat.le_refl _
  | dead => exact hdead 5
  | ok =>
   have hk := crlf_len hc
   simp only
   unfold bodyP wtP
   by_cases hz : p.in_.Left - 1 = 0
   ·rw [if_pos hz]
    simp only [argsOf_append, wtU_append]
    show _ + (1 + lenS (p.in_.Args ++ [p.s.take (needN p)]) + (p.in_.Args ++ [p.s.take (needN p)]).length + 0) + lenS [] + 0 + _ ≤ _
    rw [lenS_append]
    simp [lenS]; omega
   ·rw [if_neg hz]
    simp only [lenS_append]
    simp [lenS]; omega
 ·rw [if_neg h1]
  by_cases h2 : 0 < p.in_.Left
  ·rw [if_pos h2]
   cases hc : hdrM p.s 36 p.l.Bulk.toNat 6 with
   | more => exact Nat.le_refl _
   | dead e => exact hdead e
   | ok n k =>
    show wtU (argsOf p.out) + lenS p.in_.Args + p.in_.Args.length + 3 * (p.s.drop k).length ≤ _
    unfold wtP; simp; omega
  ·rw [if_neg h2]
   cases hp : p.s with
   | nil => exact Nat.le_refl _
   | cons c t =>
    simp only
    rw [← hp]
    by_cases h3 : c = 42
    ·rw [if_pos h3]
     cases hc : hdrM p.s 42 p.l.Args.toNat 7 with
     | more => exact Nat.le_refl _
     | dead e => exact hdead e
     | ok n k =>
      simp only
      unfold manyHP
      by_cases hn : n = 0
      ·rw [if_pos hn]
       show wtU (argsOf p.out) + lenS [] + 0 + 3 * (p.s.drop k).length ≤ _
       unfold wtP; simp [lenS]; omega
      ·rw [if_neg hn]
       show wtU (argsOf p.out) + lenS p.in_.Args + p.in_.Args.length + 3 * (p.s.drop k).length ≤ _
       unfold wtP; simp; omega
    ·rw [if_neg h3]
     cases hc : lineM p.s p.l with
     | more => exact Nat.le_refl _
     | dead e => exact hdead e
     | ok args n =>
      obtain ⟨k1, k2, k3⟩ := lineM_ok hc
      obtain ⟨k4, k5⟩ := lineM_size hc
      show wtU (argsOf (if args ≠ [] then p.out ++ [({ Args := args, Size := p.in_.Size + ((n + 1 : Nat) : Int) } : api.Request)] else p.out)) + lenS [] + 0 + 3 * (p.s.drop (n + 1)).length ≤ _
      unfold wtP
      split
      ·rw [argsOf_append, wtU_append]
       show _ + (1 + lenS args + args.length + 0) + _ + 0 + _ ≤ _
       simp [lenS]; omega
      ·simp [lenS]; omega

theorem runP_wt {p : parse.parser} (h : PInv p) : wtP (runP p) ≤ wtP p := by
 refine runP_ind (motive := fun p => wtP (runP p) ≤ wtP p) (fun p hp hs => ?_) (fun p hp hs ih => ?_) p h
 ·rw [runP_stop hs]; exact stepP_wt p
 ·rw [runP_next hp hs]; exact Nat.le_trans ih (stepP_wt p)

/-! ### What was put is found -/
theorem run_putL_ok (l : api.Limits) (hl : GoodL l) : ∀ (ls : Cmds) (out : List api.Request), (∀ c ∈ ls, c ≠ [] ∧ (c.length : Int) ≤ l.Args ∧ ∀ x ∈ c, (x.length : Int) ≤ l.Bulk) → PInv (freshP (putL ls) l out) →
  runP (freshP (putL ls) l out) = freshP [] l (out ++ ls.map fun c => ({ Args := c, Size := ((putM c).length : Int) } : api.Request))
 | [], out, _, h => by
  rw [List.map_nil, List.append_nil, runP_stop (by rfl)]; rfl
 | a :: ls, out, hg, h => by
  obtain ⟨g1, g2, g3⟩ := hg a (by simp)
  rcases run_put l hl out (putL ls) a h with ⟨h1, h2, h3⟩ | ⟨e, h1, h2, h3⟩
  ·rw [if_neg g1] at h2 h3
   show runP (freshP (putM a ++ putL ls) l out) = _
   rw [h2, run_putL_ok l hl ls _ (fun c hc => hg c (by simp [hc])) h3]
   simp
  ·rcases h3 with h3 | ⟨x, hx, h3⟩
   ·omega
   ·have := g3 x hx; omega

/-! ### A unit of which bytes are the commands -/
def limC : api.Limits := { Args := 65536, Bulk := 1048576, Line := 1 }
theorem limC_eq : limM limC = limC := by decide
theorem limC_good : GoodL limC := by have := limM_good limC; rw [limC_eq] at this; exact this
def cmdsM (t : List UInt8) : Cmds := argsOf (runP (startP emptyIn t limC)).out
def readM (t : List UInt8) : Option Cmds := if mayM (cmdsM t) = true ∧ putL (cmdsM t) = t then some (cmdsM t) else none

theorem cmdsM_wt (t : List UInt8) (h : t.length ≤ 100000) : wtU (cmdsM t) ≤ 3 * t.length := by
 have := runP_wt (start_inv t limC (by omega))
 have e : wtP (startP emptyIn t limC) = 3 * t.length := by
  show wtU (argsOf []) + lenS [] + 0 + 3 * ([] ++ t).length = _
  simp [argsOf, wtU, lenS]
 rw [e] at this
 unfold wtP at this
 unfold cmdsM
 omega

theorem may_cmd {l : Cmds} (h : mayM l = true) : ∀ c ∈ l, c ≠ [] ∧ (c.length : Int) ≤ limC.Args ∧ ∀ x ∈ c, (x.length : Int) ≤ limC.Bulk := by
 intro c hc
 unfold mayM at h
 rw [Bool.and_eq_true, List.all_eq_true] at h
 have h2 := h.2 c hc
 unfold cmdOk at h2
 rw [Bool.and_eq_true, List.all_eq_true] at h2
 have h3 := of_decide_eq_true h2.1
 refine ⟨fun e => by rw [e] at h3; simp at h3, by show (c.length : Int) ≤ 65536; omega, fun x hx => ?_⟩
 have := of_decide_eq_true (h2.2 x hx)
 show (x.length : Int) ≤ 1048576
 omega

/-- What is put is read. -/
theorem run_unit {l : Cmds} (h : mayM l = true) (hlen : (putL l).length ≤ 100000000) : runP (startP emptyIn (putL l) limC) = freshP [] limC (l.map fun c => ({ Args := c, Size := ((putM c).length : Int) } : api.Request)) := by
 have hinv := start_inv (putL l) limC hlen
 have hst : startP emptyIn (putL l) limC = freshP (putL l) limC [] := by
  show ({ in_ := _, s := [] ++ putL l, l := limM limC, out := [] } : parse.parser) = _
  rw [limC_eq]; rfl
 rw [hst] at hinv ⊢
 rw [run_putL_ok limC limC_good l [] (may_cmd h) hinv]
 rfl

theorem readM_put {l : Cmds} (h : mayM l = true) (hlen : (putL l).length ≤ 100000000) : readM (putL l) = some l := by
 have hc : cmdsM (putL l) = l := by
  unfold cmdsM
  rw [run_unit h hlen]
  show argsOf (l.map _) = l
  unfold argsOf
  rw [List.map_map]
  exact List.map_id l
 unfold readM
 rw [hc, if_pos ⟨h, rfl⟩]

theorem read_eq (t : List UInt8) (h : t.length ≤ 60000) : unit.read t = some (match readM t with | some c => (({ Cmds := c } : api.Unit), true) | none => (({ Cmds := [] } : api.Unit), false)) := by
 unfold unit.read
 have hinv := start_inv t limC (by omega)
 rw [show ({ Rest := ([] : List UInt8), Args := ([] : List (List UInt8)), Left := 0, Size := 0, Body := false, Need := 0, Dead := 0 } : api.Input) = emptyIn from rfl,
  show ({ Args := 65536, Bulk := 1048576, Line := 1 } : api.Limits) = limC from rfl, Feed_eq emptyIn t limC rfl hinv]
 simp only [Option.bind_some]
 have hw := cmdsM_wt t (by omega)
 have hlo : ∀ i, unit.read.loop0 (feedM emptyIn t limC) i = unit.read.loop0 (feedM emptyIn t limC) i := fun _ => rfl
 have hlen := wtU_len (cmdsM t)
 have hol : (runP (startP emptyIn t limC)).out.length ≤ 3 * t.length := by
  have : (cmdsM t).length = (runP (startP emptyIn t limC)).out.length := by unfold cmdsM argsOf; rw [List.length_map]
  omega
 have hloop : unit.read.loop0 (feedM emptyIn t limC) ⟨0, ([] : Cmds)⟩ = some (cmdsM t) := by
  unfold unit.read.loop0
  refine whileO_knownE _ (fun i => (⟨(i : Int), argsOf ((runP (startP emptyIn t limC)).out.take i)⟩ : unit.read.S0)) (runP (startP emptyIn t limC)).out.length (fun i hi => ?_) ?_ rfl
  ·unfold unit.read.body0
   have e : (feedM emptyIn t limC).2.1 = (runP (startP emptyIn t limC)).out := rfl
   simp only
   rw [e, if_pos (by omega), need_eq ⟨by omega, by omega⟩, need_eq (by simp [argsOf]; omega), ix_get hi, i64w (by omega) (by omega), List.take_add_one, List.getElem?_eq_getElem hi]
   simp only [Option.toList_some]
   rw [argsOf_append]
   rfl
  ·unfold unit.read.body0
   have e : (feedM emptyIn t limC).2.1 = (runP (startP emptyIn t limC)).out := rfl
   simp only
   rw [e, if_neg (by omega), List.take_length]
   rfl
 rw [hloop]
 simp only [Option.bind_some]
 by_cases hr : mayM (cmdsM t) = true ∧ putL (cmdsM t) = t
 ·-- idle
  have hidle : parse.Idle (feedM emptyIn t limC).1 = some true := by
   have hrun := run_unit hr.1 (by rw [hr.2]; omega)
   rw [hr.2] at hrun
   unfold feedM
   rw [hrun]
   rfl
  rw [hidle]
  simp only [Option.bind_some, Bool.not_true, Bool.false_eq_true, if_false]
  rw [may_eq]
  simp only [Option.bind_some]
  rw [hr.1]
  simp only [Bool.not_true, Bool.false_eq_true, if_false]
  rw [load_eq _ (by show wtU (cmdsM t) ≤ _; omega)]
  simp only [Option.bind_some, letO, Bool.not_true, Bool.false_eq_true, if_false]
  rw [hr.2, decide_eq_true rfl]
  unfold readM
  rw [if_pos hr]
  rfl
 ·have hnone : readM t = none := by unfold readM; rw [if_neg hr]
  rw [hnone]
  have hidle : ∃ b, parse.Idle (feedM emptyIn t limC).1 = some b := by
   unfold parse.Idle letO
   exact ⟨_, rfl⟩
  obtain ⟨b, hb⟩ := hidle
  rw [hb]
  simp only [Option.bind_some]
  cases b with
  | false => rfl
  | true =>
   simp only [Bool.not_true, Bool.false_eq_true, if_false]
   rw [may_eq]
   simp only [Option.bind_some]
   cases hm : mayM (cmdsM t) with
   | false => rfl
   | true =>
    simp only [Bool.not_true, Bool.false_eq_true, if_false]
    rw [load_eq _ (by show wtU (cmdsM t) ≤ _; omega)]
    simp only [Option.bind_some, letO, Bool.not_true, Bool.false_eq_true, if_false]
    have hne : ¬ putL (cmdsM t) = t := fun e => hr ⟨hm, e⟩
    rw [show decide (putL ({ Cmds := cmdsM t } : api.Unit).Cmds = t) = false from decide_eq_false hne]
    rfl

/-! ### The length -/
theorem i64_or (a b : Nat) (ha : a < 4611686018427387904) (hb : b < 4611686018427387904) : Go.bits .or .i64 (a : Int) (b : Int) = ((a ||| b : Nat) : Int) := by
 have hx : a ||| b < 2 ^ 62 := Nat.or_lt_two_pow (by omega) (by omega)
 have h1 : (BitVec.ofInt 64 (a : Int)).toNat = a := by
  rw [BitVec.ofInt_natCast, BitVec.toNat_ofNat]; exact Nat.mod_eq_of_lt (by omega)
 have h2 : (BitVec.ofInt 64 (b : Int)).toNat = b := by
  rw [BitVec.ofInt_natCast, BitVec.toNat_ofNat]; exact Nat.mod_eq_of_lt (by omega)
 show IntKind.i64.wrap ((BitVec.ofInt 64 (a : Int) ||| BitVec.ofInt 64 (b : Int)).toNat : Int) = _
 rw [BitVec.toNat_or, h1, h2, i64w (by omega) (by omega)]

theorem or_add {a b k : Nat} (h : a < 2 ^ k) : a ||| (b * 2 ^ k) = a + b * 2 ^ k := by
 rw [Nat.or_comm, ← Nat.shiftLeft_eq, ← Nat.shiftLeft_add_eq_or_of_lt h, Nat.add_comm]

/-- The length that stands ahead. -/
def hdN (s : List UInt8) : Nat := (s.getD 1 0).toNat + (s.getD 2 0).toNat * 256 + (s.getD 3 0).toNat * 65536 + (s.getD 4 0).toNat * 16777216

theorem hd_go (s : List UInt8) :
  Go.bits .or .i64 (Go.bits .or .i64 (Go.bits .or .i64 (IntKind.wrap .i64 (bix s 1)) (IntKind.wrap .i64 ((IntKind.wrap .i64 (bix s 2)) * 2 ^ min (Int.toNat 8) (IntKind.bits .i64)))) (IntKind.wrap .i64 ((IntKind.wrap .i64 (bix s 3)) * 2 ^ min (Int.toNat 16) (IntKind.bits .i64)))) (IntKind.wrap .i64 ((IntKind.wrap .i64 (bix s 4)) * 2 ^ min (Int.toNat 24) (IntKind.bits .i64))) = ((hdN s : Nat) : Int) := by
 have e1 : bix s 1 = (((s.getD 1 0).toNat : Nat) : Int) := rfl
 have e2 : bix s 2 = (((s.getD 2 0).toNat : Nat) : Int) := rfl
 have e3 : bix s 3 = (((s.getD 3 0).toNat : Nat) : Int) := rfl
 have e4 : bix s 4 = (((s.getD 4 0).toNat : Nat) : Int) := rfl
 have b1 := (s.getD 1 0).toNat_lt
 have b2 := (s.getD 2 0).toNat_lt
 have b3 := (s.getD 3 0).toNat_lt
 have b4 := (s.getD 4 0).toNat_lt
 unfold hdN
 rw [e1, e2, e3, e4]
 generalize (s.getD 1 0).toNat = x1 at *
 generalize (s.getD 2 0).toNat = x2 at *
 generalize (s.getD 3 0).toNat = x3 at *
 generalize (s.getD 4 0).toNat = x4 at *
 have p8 : ((2 : Int) ^ min (Int.toNat 8) (IntKind.bits .i64)) = 256 := rfl
 have p16 : ((2 : Int) ^ min (Int.toNat 16) (IntKind.bits .i64)) = 65536 := rfl
 have p24 : ((2 : Int) ^ min (Int.toNat 24) (IntKind.bits .i64)) = 16777216 := rfl
 have q2 : IntKind.wrap .i64 (IntKind.wrap .i64 ((x2 : Nat) : Int) * 256) = ((x2 * 2 ^ 8 : Nat) : Int) := by
  rw [i64w (n := ((x2 : Nat) : Int)) (by omega) (by omega), i64w (by omega) (by omega)]; omega
 have q3 : IntKind.wrap .i64 (IntKind.wrap .i64 ((x3 : Nat) : Int) * 65536) = ((x3 * 2 ^ 16 : Nat) : Int) := by
  rw [i64w (n := ((x3 : Nat) : Int)) (by omega) (by omega), i64w (by omega) (by omega)]; omega
 have q4 : IntKind.wrap .i64 (IntKind.wrap .i64 ((x4 : Nat) : Int) * 16777216) = ((x4 * 2 ^ 24 : Nat) : Int) := by
  rw [i64w (n := ((x4 : Nat) : Int)) (by omega) (by omega), i64w (by omega) (by omega)]; omega
 rw [p8, p16, p24, q2, q3, q4, i64w (n := ((x1 : Nat) : Int)) (by omega) (by omega)]
 rw [i64_or _ _ (by omega) (by omega), or_add (by omega), i64_or _ _ (by omega) (by omega), or_add (by omega), i64_or _ _ (by omega) (by omega), or_add (by omega)]

theorem hd_ref (s : List UInt8) (h : 5 ≤ s.length) : mewsref15.Take.loop0 s ⟨0, 4⟩ = some ((hdN s : Nat) : Int) := by
 have b1 := (s.getD 1 0).toNat_lt
 have b2 := (s.getD 2 0).toNat_lt
 have b3 := (s.getD 3 0).toNat_lt
 have b4 := (s.getD 4 0).toNat_lt
 have step : ∀ (n i : Nat), 1 ≤ i → i ≤ 4 → n < 4294967296 → mewsref15.Take.body0 s ⟨(n : Int), (i : Int)⟩ = some (.inl ⟨((n * 256 + (s.getD i 0).toNat : Nat) : Int), ((i - 1 : Nat) : Int)⟩) := fun n i h1 h2 h3 => by
  have e : bix s (i : Int) = (((s.getD i 0).toNat : Nat) : Int) := rfl
  have := (s.getD i 0).toNat_lt
  unfold mewsref15.Take.body0
  simp only
  rw [if_pos (by omega), need_eq ⟨by omega, by omega⟩, e, i64w (n := (n : Int) * 256) (by omega) (by omega), i64w (n := (((s.getD i 0).toNat : Nat) : Int)) (by omega) (by omega), i64w (by omega) (by omega), i64w (by omega) (by omega)]
  congr 3 <;> omega
 unfold mewsref15.Take.loop0
 refine whileO_next (step 0 4 (by omega) (by omega) (by omega)) (whileO_next (step _ 3 (by omega) (by omega) (by omega)) (whileO_next (step _ 2 (by omega) (by omega) (by omega)) (whileO_next (step _ 1 (by omega) (by omega) (by omega)) (whileO_end ?_))))
 unfold mewsref15.Take.body0
 simp only
 rw [if_neg (by omega)]
 unfold hdN
 congr 2
 omega

/-! ### The first unit -/
def tkEnd (n : Nat) : Option Cmds → api.Unit × Int × Int
 | none => ({ Cmds := [] }, 0, 5)
 | some c => ({ Cmds := c }, ((n + 9 : Nat) : Int), 0)
def takeM (s : List UInt8) : api.Unit × Int × Int :=
 if s = [] then ({ Cmds := [] }, 0, 4)
 else if s.getD 0 0 ≠ 85 then ({ Cmds := [] }, 0, 5)
 else if s.length < 5 then ({ Cmds := [] }, 0, 4)
 else if 4194304 < hdN s then ({ Cmds := [] }, 0, 6)
 else if s.length < hdN s + 9 then ({ Cmds := [] }, 0, 4)
 else if sealN (s.take (hdN s + 5)) ≠ s.take (hdN s + 9) then ({ Cmds := [] }, 0, 14)
 else tkEnd (hdN s) (readM ((s.drop 5).take (hdN s)))

theorem head_eq (s : List UInt8) : (bix s 0 = 85) ↔ s.getD 0 0 = 85 := by
 have e : bix s 0 = (((s.getD 0 0).toNat : Nat) : Int) := rfl
 rw [e]
 constructor
 ·intro h
  apply UInt8.toNat_inj.1
  show _ = 85
  omega
 ·intro h; rw [h]; rfl

theorem piece_eq (s : List UInt8) (n : Nat) : sub s 5 ((5 + n : Nat) : Int) = (s.drop 5).take n := by
 show (s.take _).drop _ = _
 rw [List.drop_take]
 congr 1 <;> simp <;> omega

theorem tk_nil : takeM [] = ({ Cmds := [] }, 0, 4) := rfl
theorem tk_mark {s : List UInt8} (h0 : s ≠ []) (h85 : s.getD 0 0 ≠ 85) : takeM s = ({ Cmds := [] }, 0, 5) := by
 unfold takeM; rw [if_neg h0, if_pos h85]
theorem tk_five {s : List UInt8} (h0 : s ≠ []) (h85 : s.getD 0 0 = 85) (h5 : s.length < 5) : takeM s = ({ Cmds := [] }, 0, 4) := by
 unfold takeM; rw [if_neg h0, if_neg (fun h => h h85), if_pos h5]
theorem tk_rest {s : List UInt8} (h85 : s.getD 0 0 = 85) (h5 : ¬ s.length < 5) : takeM s =
  if 4194304 < hdN s then ({ Cmds := [] }, 0, 6)
  else if s.length < hdN s + 9 then ({ Cmds := [] }, 0, 4)
  else if sealN (s.take (hdN s + 5)) ≠ s.take (hdN s + 9) then ({ Cmds := [] }, 0, 14)
  else tkEnd (hdN s) (readM ((s.drop 5).take (hdN s))) := by
 have h0 : s ≠ [] := fun e => by rw [e] at h5; simp at h5
 unfold takeM; rw [if_neg h0, if_neg (fun h => h h85), if_neg h5]

theorem Take_eq (s : List UInt8) (h : s.length ≤ 60000) : unit.Take s = some (takeM s) := by
 unfold unit.Take
 by_cases h0 : s = []
 ·rw [if_pos h0, h0]; rfl
 ·have hl : 0 < s.length := List.length_pos_iff.2 h0
  rw [if_neg h0, need_eq ⟨by omega, by omega⟩]
  by_cases h85 : s.getD 0 0 = 85
  ·rw [if_pos ((head_eq s).2 h85)]
   by_cases h5 : s.length < 5
   ·rw [if_pos (show (s.length : Int) < 5 by omega), tk_five h0 h85 h5]
   ·rw [if_neg (show ¬ (s.length : Int) < 5 by omega), tk_rest h85 h5, need_eq ⟨by omega, by omega⟩, need_eq ⟨by omega, by omega⟩]
    unfold letO
    simp only []
    rw [need_eq ⟨by omega, by omega⟩, need_eq ⟨by omega, by omega⟩, hd_go s]
    generalize hdN s = hn
    by_cases hm : 4194304 < hn
    ·rw [if_pos (show (4194304 : Int) < ((hn : Nat) : Int) by omega), if_pos hm]
    ·rw [if_neg (show ¬ (4194304 : Int) < ((hn : Nat) : Int) by omega), if_neg hm, i64w (n := ((hn : Nat) : Int) + 9) (by omega) (by omega)]
     by_cases hs : s.length < hn + 9
     ·rw [if_pos (show (s.length : Int) < ((hn : Nat) : Int) + 9 by omega), if_pos hs]
     ·rw [if_neg (show ¬ (s.length : Int) < ((hn : Nat) : Int) + 9 by omega), if_neg hs, need_eq ⟨by omega, by omega, by omega⟩, sub_zero, show (((hn : Nat) : Int) + 9).toNat = hn + 9 by omega]
      have htl : (s.take (hn + 9)).length = hn + 9 := by simp; omega
      have htt : (s.take (hn + 9)).take (hn + 9 - 4) = s.take (hn + 5) := by rw [List.take_take]; congr 1; omega
      rw [cFits_eq _ (by omega), htl, htt, Option.bind_some]
      by_cases hf : sealN (s.take (hn + 5)) = s.take (hn + 9)
      ·rw [show decide (4 ≤ hn + 9 ∧ sealN (s.take (hn + 5)) = s.take (hn + 9)) = true from decide_eq_true ⟨by omega, hf⟩, if_neg (show ¬ (!true) = true by simp), if_neg (show ¬ (sealN (s.take (hn + 5)) ≠ s.take (hn + 9)) from fun h => h hf), i64w (n := 5 + ((hn : Nat) : Int)) (by omega) (by omega), need_eq ⟨by omega, by omega, by omega⟩,
        show (5 + ((hn : Nat) : Int)) = ((5 + hn : Nat) : Int) by omega, piece_eq, read_eq _ (by simp; omega), Option.bind_some]
       cases readM ((s.drop 5).take (hn)) with
       | none => rfl
       | some c => simp [tkEnd]
      ·rw [show decide (4 ≤ hn + 9 ∧ sealN (s.take (hn + 5)) = s.take (hn + 9)) = false from decide_eq_false (fun e => hf e.2), if_pos (show (!false) = true from rfl), if_pos (show sealN (s.take (hn + 5)) ≠ s.take (hn + 9) from hf)]
  ·rw [if_neg (fun e => h85 ((head_eq s).1 e)), tk_mark h0 h85]

theorem allOf_out (p : parse.parser) : (allOf p).2 = p.out := rfl

theorem rTake_eq (s : List UInt8) (h : s.length ≤ 60000) : mewsref15.Take s = some (takeM s) := by
 unfold mewsref15.Take
 by_cases h0 : s = []
 ·rw [if_pos h0, h0]; rfl
 ·have hl : 0 < s.length := List.length_pos_iff.2 h0
  rw [if_neg h0, need_eq ⟨by omega, by omega⟩]
  by_cases h85 : s.getD 0 0 = 85
  ·rw [if_pos ((head_eq s).2 h85)]
   by_cases h5 : s.length < 5
   ·rw [if_pos (show (s.length : Int) < 5 by omega), tk_five h0 h85 h5]
   ·rw [if_neg (show ¬ (s.length : Int) < 5 by omega), tk_rest h85 h5, hd_ref s (by omega), Option.bind_some]
    generalize hdN s = hn
    by_cases hm : 4194304 < hn
    ·rw [if_pos (show (4194304 : Int) < ((hn : Nat) : Int) by omega), if_pos hm]
    ·rw [if_neg (show ¬ (4194304 : Int) < ((hn : Nat) : Int) by omega), if_neg hm, i64w (n := ((hn : Nat) : Int) + 9) (by omega) (by omega), i64w (n := ((hn : Nat) : Int) + 5) (by omega) (by omega)]
     by_cases hs : s.length < hn + 9
     ·rw [if_pos (show (s.length : Int) < ((hn : Nat) : Int) + 9 by omega), if_pos hs]
     ·rw [if_neg (show ¬ (s.length : Int) < ((hn : Nat) : Int) + 9 by omega), if_neg hs, need_eq ⟨by omega, by omega, by omega⟩, sub_zero, sub_zero, show (((hn : Nat) : Int) + 9).toNat = hn + 9 by omega, show (((hn : Nat) : Int) + 5).toNat = hn + 5 by omega, rSeal_eq _ (by simp; omega), Option.bind_some, need_eq ⟨by omega, by omega, by omega⟩]
      by_cases hf : sealN (s.take (hn + 5)) = s.take (hn + 9)
      ·rw [if_pos hf, if_neg (show ¬ (sealN (s.take (hn + 5)) ≠ s.take (hn + 9)) from fun h => h hf), need_eq ⟨by omega, by omega, by omega⟩, show (((hn : Nat) : Int) + 5) = ((5 + hn : Nat) : Int) by omega, piece_eq]
       have htl : ((s.drop 5).take (hn)).length ≤ 60000 := by simp; omega
       generalize ht : (s.drop 5).take (hn) = t at htl
       rw [show ({ Args := 65536, Bulk := 1048576, Line := 1 } : api.Limits) = limC from rfl, All_eq t limC (by omega), Option.bind_some]
       have hw := cmdsM_wt t (by omega)
       have hlen := wtU_len (cmdsM t)
       have hout : (allOf (runP (startP emptyIn t limC))).2 = (runP (startP emptyIn t limC)).out := allOf_out _
       have hol : (runP (startP emptyIn t limC)).out.length ≤ 3 * t.length := by
        have : (cmdsM t).length = (runP (startP emptyIn t limC)).out.length := by unfold cmdsM argsOf; rw [List.length_map]
        omega
       have hloop : mewsref15.Take.loop2 (allOf (runP (startP emptyIn t limC))) ⟨0, ([] : Cmds)⟩ = some (cmdsM t) := by
        unfold mewsref15.Take.loop2
        refine whileO_knownE _ (fun i => (⟨(i : Int), argsOf ((runP (startP emptyIn t limC)).out.take i)⟩ : mewsref15.Take.S2)) (runP (startP emptyIn t limC)).out.length (fun i hi => ?_) ?_ rfl
        ·unfold mewsref15.Take.body2
         simp only
         rw [hout, if_pos (by omega), need_eq ⟨by omega, by omega⟩, need_eq (by simp [argsOf]; omega), ix_get hi, i64w (by omega) (by omega), List.take_add_one, List.getElem?_eq_getElem hi]
         simp only [Option.toList_some]
         rw [argsOf_append]
         rfl
        ·unfold mewsref15.Take.body2
         simp only
         rw [hout, if_neg (by omega), List.take_length]
         rfl
       rw [hloop, Option.bind_some, rMay_eq, Option.bind_some]
       cases hmm : mayM (cmdsM t) with
       | false =>
        have hr : readM t = none := by unfold readM; rw [if_neg (fun e => by rw [hmm] at e; cases e.1)]
        rw [hr, if_pos (show (!false) = true from rfl), Option.bind_some, if_pos rfl]
        rfl
       | true =>
        rw [if_neg (show ¬ (!true) = true by simp), rLoad_eq _ (by show wtU (cmdsM t) ≤ _; omega), Option.bind_some, need_eq ⟨by omega, by omega, by omega⟩, Option.bind_some]
        by_cases he : putL (cmdsM t) = t
        ·have hr : readM t = some (cmdsM t) := by unfold readM; rw [if_pos ⟨hmm, he⟩]
         rw [hr, show decide (putL ({ Cmds := cmdsM t } : api.Unit).Cmds = t) = true from decide_eq_true he, if_neg (show ¬ (!true) = true by simp)]
         show some (({ Cmds := cmdsM t } : api.Unit), (hn : Int) + 9, (0 : Int)) = some (({ Cmds := cmdsM t } : api.Unit), ((hn + 9 : Nat) : Int), 0)
         rw [Int.natCast_add]
         rfl
        ·have hr : readM t = none := by unfold readM; rw [if_neg (fun e => he e.2)]
         rw [hr, show decide (putL ({ Cmds := cmdsM t } : api.Unit).Cmds = t) = false from decide_eq_false he, if_pos (show (!false) = true from rfl)]
         rfl
      ·rw [if_neg hf, if_pos (show sealN (s.take (hn + 5)) ≠ s.take (hn + 9) from hf)]
  ·rw [if_neg (fun e => h85 ((head_eq s).1 e)), tk_mark h0 h85]

end Go.Pu

set_option maxRecDepth 100000
namespace Go.Pu
open Go.Lift

/-! ### The head of a unit's bytes -/
theorem unitM_eq (c : Cmds) : unitM c = 85 :: (le4 (putL c).length ++ putL c ++ le4 (ofN (headN (putL c).length ++ putL c))) := by
 simp [unitM, sealN, headN]
theorem unitM_len (c : Cmds) : (unitM c).length = (putL c).length + 9 := by
 rw [unitM, sealN_len]; simp [headN, le4]

theorem byte_nat (n : Nat) : (UInt8.ofNat n).toNat = n % 256 := by simp

theorem hdN_of (n : Nat) (h : n < 4294967296) (t : List UInt8) : hdN (85 :: (le4 n ++ t)) = n := by
 show (UInt8.ofNat n).toNat + (UInt8.ofNat (n / 256)).toNat * 256 + (UInt8.ofNat (n / 65536)).toNat * 65536 + (UInt8.ofNat (n / 16777216)).toNat * 16777216 = n
 rw [byte_nat, byte_nat, byte_nat, byte_nat]
 omega

/-- The head's bytes are the number's. -/
theorem le4_hd {s : List UInt8} (h : 5 ≤ s.length) : (s.drop 1).take 4 = le4 (hdN s) := by
 match s, h with
 | x :: a :: b :: c :: d :: t, _ =>
  show [a, b, c, d] = le4 (a.toNat + b.toNat * 256 + c.toNat * 65536 + d.toNat * 16777216)
  have h1 := a.toNat_lt; have h2 := b.toNat_lt; have h3 := c.toNat_lt; have h4 := d.toNat_lt
  unfold le4
  have e : ∀ (x : UInt8) (n : Nat), n % 256 = x.toNat → UInt8.ofNat n = x := fun x n h => by
   apply UInt8.toNat_inj.1
   rw [byte_nat, h]
  rw [e a _ (by omega), e b _ (by omega), e c _ (by omega), e d _ (by omega)]

theorem hdN_take (s : List UInt8) (k : Nat) (h : 5 ≤ k) : hdN (s.take k) = hdN s := by
 have e : ∀ i, i < 5 → (s.take k).getD i 0 = s.getD i 0 := fun i hi => by
  simp [List.getD, List.getElem?_take, show i < k by omega]
 unfold hdN
 rw [e 1 (by omega), e 2 (by omega), e 3 (by omega), e 4 (by omega)]

/-- What is put is taken, whatever stands behind. -/
theorem take_put {c : Cmds} (hm : mayM c = true) (hp : (putL c).length ≤ 4194304) (b : List UInt8) : takeM (unitM c ++ b) = ({ Cmds := c }, ((unitM c).length : Int), 0) := by
 have hlen := unitM_len c
 have e : unitM c ++ b = 85 :: (le4 (putL c).length ++ (putL c ++ le4 (ofN (headN (putL c).length ++ putL c)) ++ b)) := by rw [unitM_eq]; simp
 have hhd : hdN (unitM c ++ b) = (putL c).length := by rw [e]; exact hdN_of _ (by omega) _
 have h85 : (unitM c ++ b).getD 0 0 = 85 := by rw [e]; rfl
 have hl : (unitM c ++ b).length = (putL c).length + 9 + b.length := by rw [List.length_append, hlen]
 rw [tk_rest h85 (by omega), hhd, if_neg (by omega), if_neg (by omega)]
 have hh5 : (headN (putL c).length ++ putL c).length = (putL c).length + 5 := by simp [headN, le4]
 have t5 : (unitM c ++ b).take ((putL c).length + 5) = headN (putL c).length ++ putL c := by
  have : unitM c ++ b = (headN (putL c).length ++ putL c) ++ (le4 (ofN (headN (putL c).length ++ putL c)) ++ b) := by simp [unitM, sealN]
  rw [this, ← hh5, List.take_left]
 have t9 : (unitM c ++ b).take ((putL c).length + 9) = unitM c := by rw [← hlen, List.take_left]
 have td : ((unitM c ++ b).drop 5).take (putL c).length = putL c := by
  have h2 : (unitM c ++ b).drop 5 = putL c ++ (le4 (ofN (headN (putL c).length ++ putL c)) ++ b) := by rw [e]; simp [le4]
  rw [h2, List.take_left]
 rw [t5, t9, td, if_neg (show ¬ (sealN (headN (putL c).length ++ putL c) ≠ unitM c) from fun h => h rfl), readM_put hm (by omega), hlen]
 rfl

/-- Cut off it is none. -/
theorem take_cut {c : Cmds} (hp : (putL c).length ≤ 4194304) (k : Nat) (hk : k < (unitM c).length) : takeM ((unitM c).take k) = ({ Cmds := [] }, 0, 4) := by
 have hlen := unitM_len c
 by_cases h0 : k = 0
 ·subst h0; rfl
 ·have e := unitM_eq c
  have hl : ((unitM c).take k).length = k := by rw [List.length_take]; omega
  have hne : (unitM c).take k ≠ [] := fun h => h0 (by rw [h] at hl; exact hl.symm)
  have h85 : ((unitM c).take k).getD 0 0 = 85 := by
   have : ((unitM c).take k).getD 0 0 = (unitM c).getD 0 0 := by simp [List.getD, List.getElem?_take, show 0 < k by omega]
   rw [this, e]; rfl
  by_cases h5 : k < 5
  ·exact tk_five hne h85 (by omega)
  ·have hhd : hdN ((unitM c).take k) = (putL c).length := by
    rw [hdN_take _ _ (by omega), e, List.append_assoc]
    exact hdN_of _ (by omega) _
   rw [tk_rest h85 (by omega), hhd, if_neg (by omega), if_pos (by omega)]

/-- What is taken is put so. -/
theorem take_ok {s : List UInt8} (h : (takeM s).2.2 = 0) : ∃ c n, takeM s = ({ Cmds := c }, ((n + 9 : Nat) : Int), 0) ∧ n + 9 ≤ s.length ∧ n ≤ 4194304 ∧ s.take (n + 9) = unitM c ∧ mayM c = true ∧ c = cmdsM ((s.drop 5).take n) := by
 by_cases h0 : s = []
 ·rw [h0, tk_nil] at h; cases h
 by_cases h85 : s.getD 0 0 = 85
 ·by_cases h5 : s.length < 5
  ·rw [tk_five h0 h85 h5] at h; cases h
  ·rw [tk_rest h85 h5] at h ⊢
   by_cases hm : 4194304 < hdN s
   ·rw [if_pos hm] at h; cases h
   ·rw [if_neg hm] at h ⊢
    by_cases hs : s.length < hdN s + 9
    ·rw [if_pos hs] at h; cases h
    ·rw [if_neg hs] at h ⊢
     by_cases hf : sealN (s.take (hdN s + 5)) = s.take (hdN s + 9)
     ·rw [if_neg (show ¬ (sealN (s.take (hdN s + 5)) ≠ s.take (hdN s + 9)) from fun h => h hf)] at h ⊢
      have h4 := le4_hd (s := s) (by omega)
      have hsp : s.take (hdN s + 5) = headN (hdN s) ++ (s.drop 5).take (hdN s) := by
       have e1 : s.take (hdN s + 5) = s.take 5 ++ (s.drop 5).take (hdN s) := by rw [Nat.add_comm, List.take_add]
       have e2 : s.take 5 = headN (hdN s) := by
        have e3 : s.take 5 = s.take 1 ++ (s.drop 1).take 4 := by rw [← List.take_add]
        rw [e3, h4]
        match s, h0, h85 with
        | x :: t, _, h85 =>
         have : x = 85 := h85
         rw [this]; rfl
       rw [e1, e2]
      generalize hdN s = n at *
      cases hr : readM ((s.drop 5).take n) with
      | none => rw [hr] at h; cases h
      | some c =>
       unfold readM at hr
       by_cases hc : mayM (cmdsM ((s.drop 5).take n)) = true ∧ putL (cmdsM ((s.drop 5).take n)) = (s.drop 5).take n
       ·rw [if_pos hc] at hr
        injection hr with hr
        have hn : ((s.drop 5).take n).length = n := by simp; omega
        refine ⟨c, n, rfl, by omega, by omega, ?_, by rw [← hr]; exact hc.1, hr.symm⟩
        rw [← hf, hsp, ← hr]
        unfold unitM
        rw [hc.2, hn]
       ·rw [if_neg hc] at hr; cases hr
     ·rw [if_pos (show sealN (s.take (hdN s + 5)) ≠ s.take (hdN s + 9) from hf)] at h; cases h
 ·rw [tk_mark h0 h85] at h; cases h

/-! ### All units -/
def allN : Nat → List UInt8 → List api.Unit × Nat
 | 0, _ => ([], 0)
 | k + 1, s => if (takeM s).2.2 = 0 then ((takeM s).1 :: (allN k (s.drop (takeM s).2.1.toNat)).1, (takeM s).2.1.toNat + (allN k (s.drop (takeM s).2.1.toNat)).2) else ([], 0)

theorem All_go' (s : List UInt8) (hs : s.length ≤ 60000) : ∀ (k at_ : Nat) (l : List api.Unit), s.length - at_ < k → at_ ≤ s.length → l.length ≤ at_ →
  unit.All.loop0 s ⟨l, (at_ : Int)⟩ = some (l ++ (allN k (s.drop at_)).1, ((at_ + (allN k (s.drop at_)).2 : Nat) : Int)) ∧
  mewsref15.All.loop0 s ⟨l, (at_ : Int)⟩ = some (l ++ (allN k (s.drop at_)).1, ((at_ + (allN k (s.drop at_)).2 : Nat) : Int)) := by
 intro k
 induction k with
 | zero => intro at_ l h; omega
 | succ k ih =>
  intro at_ l hk hat hl
  have hd : (s.drop at_).length = s.length - at_ := List.length_drop
  by_cases h : (takeM (s.drop at_)).2.2 = 0
  ·obtain ⟨c, n, e, h1, h2, _⟩ := take_ok h
   have en : (takeM (s.drop at_)).2.1.toNat = n + 9 := by rw [e]; rfl
   have eu : (takeM (s.drop at_)).1 = { Cmds := c } := by rw [e]
   have hall : allN (k + 1) (s.drop at_) = ((takeM (s.drop at_)).1 :: (allN k (s.drop (at_ + (n + 9)))).1, (n + 9) + (allN k (s.drop (at_ + (n + 9)))).2) := by
    show (if (takeM (s.drop at_)).2.2 = 0 then _ else _) = _
    rw [if_pos h, en, List.drop_drop]
   obtain ⟨i1, i2⟩ := ih (at_ + (n + 9)) (l ++ [(takeM (s.drop at_)).1]) (by omega) (by omega) (by simp; omega)
   have hfin : ∀ x : List api.Unit × Nat, (l ++ [(takeM (s.drop at_)).1] ++ x.1, ((at_ + (n + 9) + x.2 : Nat) : Int)) = (l ++ ((takeM (s.drop at_)).1 :: x.1), ((at_ + (n + 9 + x.2) : Nat) : Int)) := fun x => by
    rw [List.append_assoc, Nat.add_assoc]; rfl
   have ew : IntKind.wrap .i64 ((at_ : Int) + (takeM (s.drop at_)).2.1) = ((at_ + (n + 9) : Nat) : Int) := by
    rw [e, i64w (by show _ ≤ (at_ : Int) + ((n + 9 : Nat) : Int); omega) (by show (at_ : Int) + ((n + 9 : Nat) : Int) < _; omega)]; show (at_ : Int) + ((n + 9 : Nat) : Int) = _; omega
   constructor
   ·rw [hall, ← hfin, ← i1]
    unfold unit.All.loop0
    rw [whileO_eq]
    unfold unit.All.body0
    simp only []
    rw [need_eq ⟨by omega, by omega, by omega⟩, sub_all, Int.toNat_natCast, Take_eq _ (by omega), Option.bind_some, if_pos h, need_eq (by simp; omega), ew]
    rfl
   ·rw [hall, ← hfin, ← i2]
    unfold mewsref15.All.loop0
    rw [whileO_eq]
    unfold mewsref15.All.body0
    simp only []
    rw [need_eq ⟨by omega, by omega, by omega⟩, sub_all, Int.toNat_natCast, rTake_eq _ (by omega), Option.bind_some, if_pos h, need_eq (by simp; omega), ew]
    rfl
  ·have hall : allN (k + 1) (s.drop at_) = ([], 0) := by
    show (if (takeM (s.drop at_)).2.2 = 0 then _ else _) = _
    rw [if_neg h]
   rw [hall, List.append_nil, Nat.add_zero]
   constructor
   ·unfold unit.All.loop0
    refine whileO_end ?_
    unfold unit.All.body0
    simp only []
    rw [need_eq ⟨by omega, by omega, by omega⟩, sub_all, Int.toNat_natCast, Take_eq _ (by omega), Option.bind_some, if_neg h]
   ·unfold mewsref15.All.loop0
    refine whileO_end ?_
    unfold mewsref15.All.body0
    simp only []
    rw [need_eq ⟨by omega, by omega, by omega⟩, sub_all, Int.toNat_natCast, rTake_eq _ (by omega), Option.bind_some, if_neg h]

def allM (s : List UInt8) : List api.Unit × Nat := allN (s.length + 1) s
theorem AllU_eq (s : List UInt8) (hs : s.length ≤ 60000) : unit.All s = some ((allM s).1, ((allM s).2 : Int)) := by
 have := (All_go' s hs (s.length + 1) 0 [] (by omega) (by omega) (by simp)).1
 rw [List.drop_zero, List.nil_append, Nat.zero_add] at this
 exact this
/-- The bytes of units, one behind the other. -/
def rowsM : List api.Unit → List UInt8
 | [] => []
 | u :: l => unitM u.Cmds ++ rowsM l
/-- All that is taken: it is put so, and may be. -/
theorem allN_ok : ∀ (k : Nat) (s : List UInt8), s.length ≤ 60000 → s.take (allN k s).2 = rowsM (allN k s).1 ∧ (allN k s).2 ≤ s.length ∧ (∀ u ∈ (allN k s).1, mayM u.Cmds = true ∧ wtU u.Cmds ≤ 200000) ∧ (allN k s).1.length ≤ s.length
 | 0, s, _ => ⟨rfl, Nat.zero_le _, by simp [allN], by simp [allN]⟩
 | k + 1, s, hs => by
  by_cases h : (takeM s).2.2 = 0
  ·obtain ⟨c, n, e, h1, h2, h3, h4, h5⟩ := take_ok h
   have en : (takeM s).2.1.toNat = n + 9 := by rw [e]; rfl
   have eu : (takeM s).1 = { Cmds := c } := by rw [e]
   have hall : allN (k + 1) s = ((takeM s).1 :: (allN k (s.drop (n + 9))).1, (n + 9) + (allN k (s.drop (n + 9))).2) := by
    show (if (takeM s).2.2 = 0 then _ else _) = _
    rw [if_pos h, en]
   obtain ⟨g1, g2, g3, g4⟩ := allN_ok k (s.drop (n + 9)) (by simp; omega)
   rw [hall, eu]
   refine ⟨?_, ?_, ?_, ?_⟩
   ·show s.take ((n + 9) + _) = unitM c ++ rowsM _
    rw [List.take_add, h3, g1]
   ·show (n + 9) + _ ≤ _
    rw [List.length_drop] at g2; omega
   ·intro u hu
    rcases List.mem_cons.1 hu with rfl | hu
    ·refine ⟨h4, ?_⟩
     show wtU c ≤ _
     rw [h5]
     have := cmdsM_wt ((s.drop 5).take n) (by simp; omega)
     have hl : ((s.drop 5).take n).length ≤ 60000 := by simp; omega
     omega
    ·exact g3 u hu
   ·show (allN k (s.drop (n + 9))).1.length + 1 ≤ _
    rw [List.length_drop] at g4; omega
  ·have hall : allN (k + 1) s = ([], 0) := by
    show (if (takeM s).2.2 = 0 then _ else _) = _
    rw [if_neg h]
   rw [hall]
   exact ⟨rfl, Nat.zero_le _, by simp, by simp⟩

/-- What was put, one behind the other, is all taken. -/
theorem allN_rows : ∀ (us : List api.Unit) (k : Nat) (t : List UInt8), (∀ u ∈ us, mayM u.Cmds = true ∧ (putL u.Cmds).length ≤ 4194304) → (rowsM us ++ t).length < k →
  ∃ k', allN k (rowsM us ++ t) = (us ++ (allN k' t).1, (rowsM us).length + (allN k' t).2)
 | [], k, t, _, _ => ⟨k, by simp [rowsM]⟩
 | u :: us, 0, t, _, hk => by simp at hk
 | u :: us, k + 1, t, hu, hk => by
  obtain ⟨h1, h2⟩ := hu u (by simp)
  have e : rowsM (u :: us) ++ t = unitM u.Cmds ++ (rowsM us ++ t) := by simp [rowsM]
  have hlen := unitM_len u.Cmds
  have ht := take_put h1 h2 (rowsM us ++ t)
  obtain ⟨k', hk'⟩ := allN_rows us k t (fun x hx => hu x (by simp [hx])) (by rw [e, List.length_append] at hk; omega)
  refine ⟨k', ?_⟩
  rw [e]
  show (if (takeM (unitM u.Cmds ++ (rowsM us ++ t))).2.2 = 0 then _ else _) = _
  rw [ht, if_pos rfl]
  show (({ Cmds := u.Cmds } : api.Unit) :: (allN k ((unitM u.Cmds ++ (rowsM us ++ t)).drop ((unitM u.Cmds).length : Int).toNat)).1, ((unitM u.Cmds).length : Int).toNat + (allN k ((unitM u.Cmds ++ (rowsM us ++ t)).drop ((unitM u.Cmds).length : Int).toNat)).2) = _
  rw [Int.toNat_natCast, List.drop_left, hk']
  simp only [rowsM, List.length_append, List.cons_append, Nat.add_assoc]

end Go.Pu

set_option maxHeartbeats 0
set_option maxRecDepth 100000
namespace Go.Pu
open Go.Lift

theorem Weight_loop2' (u : api.Unit) (i nn n0 : Nat) (hi : i < u.Cmds.length) (hf : FitsC u.Cmds) (hn : n0 ≤ 2000000000000000) :
  ∃ r, mewsref15.Weight.loop2 ⟨(nn : Int), (i : Int)⟩ u ⟨(n0 : Int), 0⟩ = some r ∧ ∃ m : Nat, r = (m : Int) ∧ m ≤ n0 + 1000000000200000 ∧ (m = n0 + lenS u.Cmds[i] + u.Cmds[i].length ∨ 100000 ≤ m) := by
 obtain ⟨hc1, hc2⟩ := hf.2 _ (List.getElem_mem hi)
 have hL := hf.1
 unfold mewsref15.Weight.loop2
 refine whileO_dec (fun s => ∃ k m : Nat, s = ⟨(m : Int), (k : Int)⟩ ∧ k ≤ u.Cmds[i].length ∧ m = n0 + lenS (u.Cmds[i].take k) + k ∧ m ≤ n0 + 1000000000200000) (fun s => u.Cmds[i].length - s.k.toNat) _ (fun s hs => ?_) _ ⟨0, n0, rfl, Nat.zero_le _, by simp [lenS], by omega⟩
 obtain ⟨k, m, rfl, hk, hm, hb⟩ := hs
 unfold mewsref15.Weight.body2
 simp only
 rw [need_eq ⟨by omega, by omega⟩, ix_get hi]
 by_cases hkc : k < u.Cmds[i].length
 ·rw [if_pos (by omega)]
  simp only [Option.bind_some]
  by_cases hlt : m < 100000
  ·have hsl := hc2 _ (List.getElem_mem hkc)
   rw [if_pos (decide_eq_true (by omega)), need_eq ⟨by omega, by omega⟩, need_eq ⟨by omega, by omega⟩, ix_get hkc, i64w (n := 1 + _) (by omega) (by omega), i64w (by omega) (by omega), i64w (by omega) (by omega)]
   have hlen : lenS (u.Cmds[i].take (k + 1)) = lenS (u.Cmds[i].take k) + u.Cmds[i][k].length := by
    rw [List.take_add_one, List.getElem?_eq_getElem hkc, lenS_append]; simp [lenS]
   refine .inl ⟨_, rfl, ⟨k + 1, m + (1 + u.Cmds[i][k].length), ?_, by omega, by omega, by omega⟩, ?_⟩
   ·congr 1 <;> omega
   ·show u.Cmds[i].length - ((k : Int) + 1).toNat < u.Cmds[i].length - (k : Int).toNat; omega
  ·rw [if_neg (by rw [decide_eq_false (by omega)]; simp)]
   exact .inr ⟨_, rfl, m, rfl, hb, .inr (by omega)⟩
 ·rw [if_neg (by omega)]
  have : k = u.Cmds[i].length := by omega
  subst this
  rw [List.take_length] at hm
  exact .inr ⟨_, rfl, m, rfl, hb, .inl hm⟩

theorem Weight_eq (u : api.Unit) (hf : FitsC u.Cmds) : ∃ r, mewsref15.Weight u = some r ∧ ∃ m : Nat, r = (m : Int) ∧ m ≤ 2000000000000000 ∧ (m = wtU u.Cmds ∨ 100000 ≤ m) := by
 have hL := hf.1
 unfold mewsref15.Weight
 have : ∃ r, mewsref15.Weight.loop0 u ⟨0, 0⟩ = some r ∧ ∃ m : Nat, r = (m : Int) ∧ m ≤ 2000000000000000 ∧ (m = wtU u.Cmds ∨ 100000 ≤ m) := by
  unfold mewsref15.Weight.loop0
  refine whileO_dec (fun s => ∃ i m : Nat, s = ⟨(m : Int), (i : Int)⟩ ∧ i ≤ u.Cmds.length ∧ (m = wtU (u.Cmds.take i) ∨ 100000 ≤ m) ∧ m ≤ 2000000000000000) (fun s => u.Cmds.length - s.i.toNat) _ (fun s hs => ?_) _ ⟨0, 0, rfl, Nat.zero_le _, .inl rfl, by omega⟩
  obtain ⟨i, m, rfl, hi, hm, hb⟩ := hs
  unfold mewsref15.Weight.body0 letO
  simp only
  by_cases hic : i < u.Cmds.length
  ·by_cases hlt : m < 100000
   ·rw [if_pos (show (if (i : Int) < (u.Cmds.length : Int) then decide ((m : Int) < 100000) else false) = true by rw [if_pos (by omega)]; exact decide_eq_true (by omega)), i64w (by omega) (by omega)]
    obtain ⟨r, h1, m', rfl, h3, h4⟩ := Weight_loop2' u i m (m + 1) hic hf (by omega)
    rw [show ((m : Int) + 1) = ((m + 1 : Nat) : Int) by omega, h1]
    simp only [Option.bind_some]
    rw [i64w (by omega) (by omega)]
    refine .inl ⟨_, rfl, ⟨i + 1, m', ?_, by omega, ?_, by omega⟩, ?_⟩
    ·congr 1
    ·rcases h4 with h4 | h4
     ·left
      rw [List.take_add_one, List.getElem?_eq_getElem hic, wtU_append]
      rcases hm with hm | hm
      ·simp only [Option.toList_some, wtU]; omega
      ·omega
     ·exact .inr h4
    ·show u.Cmds.length - ((i : Int) + 1).toNat < u.Cmds.length - (i : Int).toNat; omega
   ·rw [if_neg (show ¬ (if (i : Int) < (u.Cmds.length : Int) then decide ((m : Int) < 100000) else false) = true by rw [if_pos (by omega), decide_eq_false (by omega)]; simp)]
    exact .inr ⟨_, rfl, m, rfl, hb, .inr (by omega)⟩
  ·rw [if_neg (show ¬ (if (i : Int) < (u.Cmds.length : Int) then decide ((m : Int) < 100000) else false) = true by rw [if_neg (by omega)]; simp)]
   have : i = u.Cmds.length := by omega
   subst this
   rw [List.take_length] at hm
   exact .inr ⟨_, rfl, m, rfl, hb, hm⟩
 obtain ⟨r, h1, h2⟩ := this
 exact ⟨r, by rw [h1]; rfl, h2⟩

theorem Far_eq (l : List api.Unit) (hl : l.length ≤ 1000000000000000) (hf : ∀ u ∈ l, FitsC u.Cmds) : ∃ b, mewslaw15.Far l = some b ∧ (b = false → l.length ≤ 100 ∧ wtL l ≤ 4000) := by
 unfold mewslaw15.Far
 have : ∃ r, mewslaw15.Far.loop0 l ⟨0, 0⟩ = some r ∧ (r = .inr true ∨ (r = .inl () ∧ wtL l ≤ 4000)) := by
  unfold mewslaw15.Far.loop0
  refine whileO_dec (fun s => ∃ i m : Nat, s = ⟨(m : Int), (i : Int)⟩ ∧ i ≤ l.length ∧ m = wtL (l.take i) ∧ m ≤ 4000) (fun s => l.length - s.t8.toNat) _ (fun s hs => ?_) _ ⟨0, 0, rfl, Nat.zero_le _, rfl, by omega⟩
  obtain ⟨i, m, rfl, hi, hm, hb⟩ := hs
  unfold mewslaw15.Far.body0
  simp only
  by_cases hic : i < l.length
  ·obtain ⟨r, h1, m', rfl, h3, h4⟩ := Weight_eq l[i] (hf _ (List.getElem_mem hic))
   rw [if_pos (by omega), need_eq ⟨by omega, by omega⟩, ix_get hic, h1]
   simp only [Option.bind_some]
   rw [i64w (by omega) (by omega)]
   by_cases h5 : 4000 < m + m'
   ·rw [if_pos (by omega)]
    exact .inr ⟨_, rfl, .inl rfl⟩
   ·rw [if_neg (by omega), i64w (by omega) (by omega)]
    refine .inl ⟨_, rfl, ⟨i + 1, m + m', ?_, by omega, ?_, by omega⟩, ?_⟩
    ·congr 1
    ·rw [List.take_add_one, List.getElem?_eq_getElem hic, wtL_append]
     simp only [Option.toList_some, wtL]
     rcases h4 with h4 | h4 <;> omega
    ·show l.length - ((i : Int) + 1).toNat < l.length - (i : Int).toNat; omega
  ·rw [if_neg (by omega)]
   have : i = l.length := by omega
   subst this
   rw [List.take_length] at hm
   exact .inr ⟨_, rfl, .inr ⟨rfl, by omega⟩⟩
 obtain ⟨r, h1, h2 | ⟨h2, h3⟩⟩ := this
 ·exact ⟨true, by rw [h1, h2]; rfl, fun h => by cases h⟩
 ·refine ⟨decide (100 < (l.length : Int)), by rw [h1, h2]; rfl, fun h => ⟨?_, h3⟩⟩
  have := of_decide_eq_false h
  omega

theorem fits_wf {u : api.Unit} (h : api.Unit.wf u) : FitsC u.Cmds := by
 obtain ⟨⟨h1, h2⟩, _⟩ := h
 refine ⟨by omega, fun c hc => ?_⟩
 obtain ⟨h3, h4⟩ := h2 c hc
 exact ⟨by omega, fun s hs => by have := h4 s hs; omega⟩

end Go.Pu
