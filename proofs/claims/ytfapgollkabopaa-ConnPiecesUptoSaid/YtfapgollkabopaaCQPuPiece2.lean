/- The pure law ParsePieces. -/
import Derived.Test.YtfapgollkabopaaCQPuPiece1
import Derived.Test.YtfapgollkabopaaCQPuParse4
set_option maxRecDepth 100000
namespace Go.Pu
open Go.Lift

theorem lenS_take_le (l : List (List UInt8)) (i : Nat) : lenS (l.take i) ≤ lenS l := by
 conv => rhs; rw [← List.take_append_drop i l, lenS_append]
 omega
theorem flat_len (l : List (List UInt8)) : l.flatten.length = lenS l := by
 induction l with
 | nil => rfl
 | cons x l ih => simp [lenS, ih]

theorem run_empty (l : api.Limits) : runP (startP emptyIn [] l) = startP emptyIn [] l := by
 rw [runP_stop]
 ·rfl
 ·rfl

theorem ParsePieces_loop (pieces : List (List UInt8)) (l : api.Limits) (hl : pieces.length ≤ 100) (hs : lenS pieces ≤ 5000) :
  ∃ x : (List UInt8) × (List api.Request) × (List UInt8) × (List (List UInt8)) × Int × Int × Bool × Int × Int, mewslaw05.ParsePieces.loop0 pieces l ⟨[], [], 0, [], [], 0, 0, false, 0, 0⟩ = some (.inl x) ∧
   x.1 = pieces.flatten ∧ x.2.1 = (runP (startP emptyIn pieces.flatten l)).out ∧
   ({ Rest := x.2.2.1, Args := x.2.2.2.1, Left := x.2.2.2.2.1, Size := x.2.2.2.2.2.1, Body := x.2.2.2.2.2.2.1, Need := x.2.2.2.2.2.2.2.1, Dead := x.2.2.2.2.2.2.2.2 } : api.Input) = inOf (runP (startP emptyIn pieces.flatten l)) := by
 unfold mewslaw05.ParsePieces.loop0
 let st : Nat → mewslaw05.ParsePieces.S0 := fun i =>
  let q := runP (startP emptyIn (pieces.take i).flatten l)
  ⟨(pieces.take i).flatten, q.out, (i : Int), q.s, q.in_.Args, q.in_.Left, q.in_.Size, q.in_.Body, q.in_.Need, q.in_.Dead⟩
 have h0 : (⟨[], [], 0, [], [], 0, 0, false, 0, 0⟩ : mewslaw05.ParsePieces.S0) = st 0 := by
  simp only [st, List.take_zero, List.flatten_nil]
  rw [run_empty]; rfl
 refine ⟨(pieces.flatten, (runP (startP emptyIn pieces.flatten l)).out, (runP (startP emptyIn pieces.flatten l)).s, (runP (startP emptyIn pieces.flatten l)).in_.Args, (runP (startP emptyIn pieces.flatten l)).in_.Left, (runP (startP emptyIn pieces.flatten l)).in_.Size, (runP (startP emptyIn pieces.flatten l)).in_.Body, (runP (startP emptyIn pieces.flatten l)).in_.Need, (runP (startP emptyIn pieces.flatten l)).in_.Dead), ?_, rfl, rfl, rfl⟩
 refine whileO_knownE _ st pieces.length (fun i hi => ?_) ?_ h0
 ·have hlen : (pieces.take i).flatten.length + pieces[i].length ≤ 5000 := by
   rw [flat_len]
   have := lenS_take_le pieces (i + 1)
   rw [List.take_add_one, List.getElem?_eq_getElem hi, lenS_append] at this
   simp only [Option.toList_some, lenS] at this
   omega
  have hflat : (pieces.take (i + 1)).flatten = (pieces.take i).flatten ++ pieces[i] := by
   rw [List.take_add_one, List.getElem?_eq_getElem hi, List.flatten_append]; simp
  have hp := start_inv (pieces.take i).flatten l (by omega)
  have hq := (runP_inv hp).1
  simp only [st]
  rw [hflat]
  unfold mewslaw05.ParsePieces.body0
  simp only [letO]
  rw [if_pos (by omega), need_eq ⟨by omega, by omega⟩, ix_get hi, i64w (by omega) (by omega)]
  generalize hall : (pieces.take i).flatten = all at *
  generalize hb : pieces[i] = b at *
  have hin : ({ Rest := (runP (startP emptyIn all l)).s, Args := (runP (startP emptyIn all l)).in_.Args, Left := (runP (startP emptyIn all l)).in_.Left, Size := (runP (startP emptyIn all l)).in_.Size, Body := (runP (startP emptyIn all l)).in_.Body, Need := (runP (startP emptyIn all l)).in_.Need, Dead := (runP (startP emptyIn all l)).in_.Dead } : api.Input) = inOf (runP (startP emptyIn all l)) := rfl
  rw [hin]
  rcases feed_more (all := all) (b := b) (l := l) (by omega) with ⟨h1, h2, h3⟩ | ⟨e, h1, h2, h3⟩
  ·have hr := (runP_inv h2).1
   have ho1 := hq.out
   have ho2 := hr.out
   rw [Feed_eq (inOf (runP (startP emptyIn all l))) b l h1 h2, h3]
   simp only [Option.bind_some, feedM, if_true]
   rw [if_pos h1]
   simp only [Bool.false_eq_true, if_false]
   rw [need_eq (by omega), need_eq (by omega)]
   rfl
  ·have hd : (runP (startP emptyIn all l)).in_.Dead = e := by
    have := congrArg api.Input.Dead h2; exact this
   rw [h2, Feed_dead { emptyIn with Dead := e } b l (show e ≠ 0 by omega), h3]
   simp only [Option.bind_some, if_true]
   rw [hd, if_neg (show ¬ e = 0 by omega)]
   simp only [List.length_nil, List.append_nil, decide_true, Bool.not_true]
   have ho1 := hq.out
   rw [need_eq (by omega), need_eq (by omega)]
   have e1 := congrArg api.Input.Rest h2
   have e2 := congrArg api.Input.Args h2
   have e3 := congrArg api.Input.Left h2
   have e4 := congrArg api.Input.Size h2
   have e5 := congrArg api.Input.Body h2
   have e6 := congrArg api.Input.Need h2
   have e1 : (runP (startP emptyIn all l)).s = [] := e1
   have e2 : (runP (startP emptyIn all l)).in_.Args = [] := e2
   have e3 : (runP (startP emptyIn all l)).in_.Left = 0 := e3
   have e4 : (runP (startP emptyIn all l)).in_.Size = 0 := e4
   have e5 : (runP (startP emptyIn all l)).in_.Body = false := e5
   have e6 : (runP (startP emptyIn all l)).in_.Need = 0 := e6
   rw [e1, e2, e3, e4, e5, e6]
   rfl
 ·unfold mewslaw05.ParsePieces.body0
  simp only [st]
  rw [if_neg (by omega), List.take_length]

theorem ParsePieces_pure (pieces : List (List UInt8)) (l : api.Limits) (hl : pieces.length < 1000000000000000) : mewslaw05.ParsePieces pieces l = some true := by
 unfold mewslaw05.ParsePieces
 obtain ⟨b, hf, hf2⟩ := far05_eq pieces hl
 rw [hf, alive05]
 cases b with
 | true => rfl
 | false =>
  obtain ⟨g1, g2⟩ := hf2 rfl
  obtain ⟨x, h1, h2, h3, h4⟩ := ParsePieces_loop pieces l g1 g2
  simp only [Option.bind_some, Bool.false_eq_true, if_false]
  rw [h1]
  simp only [Option.bind_some, onSum]
  have hinv := start_inv pieces.flatten l (by rw [flat_len]; omega)
  have hr := (runP_inv hinv).1
  have ho := hr.out
  have ha := hr.args
  have hob := runP_out hinv (fun r hr => by cases hr)
  rw [h2, h3, h4, Feed_eq emptyIn _ l rfl hinv]
  simp only [Option.bind_some, feedM, inOf]
  rw [SameInput_self _ (by simp only; omega)]
  simp only [Option.bind_some, if_true]
  rw [Same5_self _ (by omega) hob]
  rfl

end Go.Pu

namespace Go.Pu.Pure
open Go.Lift Go.Pu
theorem ParsePieces {a0 : List (List UInt8)} {a1 : api.Limits} (h0 : a0.length * 16 ≤ 140737488351232 ∧ ∀ y0, y0 ∈ a0 → y0.length ≤ 140737488351232) (h1 : api.Limits.wf a1) : mewslaw05.ParsePieces a0 a1 = some true := ParsePieces_pure a0 a1 (by omega)
end Go.Pu.Pure
