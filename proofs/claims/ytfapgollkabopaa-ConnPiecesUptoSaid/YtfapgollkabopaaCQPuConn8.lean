/- The pure law ConnPieces, where the pieces are not too many. -/
import Derived.Test.YtfapgollkabopaaCQPuConn3
set_option maxRecDepth 100000
namespace Go.Pu
open Go.Lift

def opS (s : List UInt8) : mewslaw43.Op := { Kind := 0, S := s, N := 0, M := 0 }
theorem opsL_pieces : ∀ l : List (List UInt8), opsL (l.map opS) = lenS l
 | [] => rfl
 | s :: l => by show s.length + opsL (l.map opS) = s.length + lenS l; rw [opsL_pieces l]

def stR (l : api.Limits) (all : List UInt8) (i : Int) : mewslaw43.ConnPieces.S2 :=
 ⟨(runP (startP emptyIn all l)).out, all, i, 0, -1, (inOf (runP (startP emptyIn all l))).Rest, (inOf (runP (startP emptyIn all l))).Args, (inOf (runP (startP emptyIn all l))).Left, (inOf (runP (startP emptyIn all l))).Size, (inOf (runP (startP emptyIn all l))).Body, (inOf (runP (startP emptyIn all l))).Need, (inOf (runP (startP emptyIn all l))).Dead, sizeQ (runP (startP emptyIn all l)).out, [], [], 0, false, false⟩

theorem pieces_step (t' : api.Tenant) (pieces : List (List UInt8)) (i : Nat) (hil : i < pieces.length) (hi : i ≤ 100000) (all : List UInt8) (hlen : all.length + pieces[i].length ≤ 100000) (hd : (runP (startP emptyIn all t'.Limits)).in_.Dead = 0) :
  mewslaw43.ConnPieces.body2 pieces t' (stR t'.Limits all (i : Int)) =
   if textM t'.In (runP (startP emptyIn (all ++ pieces[i]) t'.Limits)) (sizeQ (runP (startP emptyIn (all ++ pieces[i]) t'.Limits)).out) = [] then some (.inl (stR t'.Limits (all ++ pieces[i]) ((i + 1 : Nat) : Int))) else some (.inr (.inr true)) := by
 obtain ⟨outs, o1, o2⟩ := readC_more t' all pieces[i] (by omega) hd
 have hp2 := start_inv (all ++ pieces[i]) t'.Limits (by rw [List.length_append]; omega)
 have hob : (runP (startP emptyIn (all ++ pieces[i]) t'.Limits)).out.length ≤ 100000000 := by have := (runP_inv hp2).1.out; omega
 rw [o1, List.length_append] at hob
 unfold mewslaw43.ConnPieces.body2
 have e : (stR t'.Limits all (i : Int)).t39 = (i : Int) := rfl
 rw [e, if_pos (by omega), need_eq ⟨by omega, by omega⟩, ix_get hil]
 show (conn.Read (readC t'.Limits all) pieces[i] t').bind _ = _
 rw [o2, Option.bind_some]
 by_cases htx : textM t'.In (runP (startP emptyIn (all ++ pieces[i]) t'.Limits)) (sizeQ (runP (startP emptyIn (all ++ pieces[i]) t'.Limits)).out) = []
 ·rw [if_pos htx, if_pos htx]
  show need (((runP (startP emptyIn all t'.Limits)).out.length + outs.length) * 32 ≤ 140737488355328) (need (all.length + pieces[i].length ≤ 9223372036854775807) _) = _
  have ei : IntKind.wrap .i64 ((i : Int) + 1) = ((i + 1 : Nat) : Int) := by
   rw [i64w (by omega) (by omega)]; omega
  rw [need_eq (by omega), need_eq (by omega), ei]
  show some (Sum.inl (⟨(runP (startP emptyIn all t'.Limits)).out ++ outs, _, _, _, _, _, _, _, _, _, _, _, _, _, _, _, _, _⟩ : mewslaw43.ConnPieces.S2)) = _
  rw [← o1, htx]
  rfl
 ·rw [if_neg htx, if_neg htx, alive43]
  rw [show (!decide (textM t'.In (runP (startP emptyIn (all ++ pieces[i]) t'.Limits)) (sizeQ (runP (startP emptyIn (all ++ pieces[i]) t'.Limits)).out) = [])) = true by rw [decide_eq_false htx]; rfl]
  rfl

theorem ConnPieces_pure (t : api.Tenant) (pieces : List (List UInt8)) (hl : pieces.length ≤ 2000000) : mewslaw43.ConnPieces t pieces = some true := by
 unfold mewslaw43.ConnPieces
 have h0 : mewslaw43.ConnPieces.loop0 pieces ⟨([] : List mewslaw43.Op), 0⟩ = some (pieces.map opS) := by
  unfold mewslaw43.ConnPieces.loop0
  refine whileO_knownE _ (fun i => (⟨(pieces.take i).map opS, (i : Int)⟩ : mewslaw43.ConnPieces.S0)) pieces.length (fun i hi => ?_) ?_ rfl
  ·unfold mewslaw43.ConnPieces.body0
   simp only []
   rw [if_pos (by omega), need_eq ⟨by omega, by omega⟩, need_eq (by simp; omega), ix_get hi, i64w (by omega) (by omega), List.take_add_one, List.getElem?_eq_getElem hi]
   simp only [Option.toList_some]
   rw [List.map_append]
   rfl
  ·unfold mewslaw43.ConnPieces.body0
   simp only []
   rw [if_neg (by omega), List.take_length]
 rw [h0, Option.bind_some, far43_eq _ (by rw [List.length_map]; omega), Option.bind_some, alive43]
 by_cases hw : 3000 < opsW (pieces.map opS)
 ·rw [if_pos (by simpa using hw)]; rfl
 rw [if_neg (by simpa using hw)]
 have hsmall := opsW_le (l := pieces.map opS) (by omega)
 rw [List.length_map, opsL_pieces] at hsmall
 have hr : mewslaw43.right_ t = some (rightT t) := rfl
 rw [hr, Option.bind_some]
 have hop : conn.Open 0 = some openC := rfl
 rw [hop, Option.bind_some]
 have hti : 0 ≤ (rightT t).In ∧ (rightT t).In ≤ 1048576 := by
  show 0 ≤ (if 1048576 < (if t.In < 0 then 0 else t.In) then 1048576 else (if t.In < 0 then 0 else t.In)) ∧ (if 1048576 < (if t.In < 0 then 0 else t.In) then 1048576 else (if t.In < 0 then 0 else t.In)) ≤ 1048576
  split <;> split <;> omega
 generalize rightT t = t' at *
 have hrun0 := run_empty t'.Limits
 have hopenR : readC t'.Limits [] = openC := by
  unfold readC
  rw [hrun0]
  rfl
 have htake : ∀ i, lenS (pieces.take i) ≤ lenS pieces := fun i => lenS_take_le pieces i
 have hflat : ∀ i (hi : i < pieces.length), (pieces.take (i + 1)).flatten = (pieces.take i).flatten ++ pieces[i] := fun i hi => by
  rw [List.take_add_one, List.getElem?_eq_getElem hi]; simp only [Option.toList_some, List.flatten_append, List.flatten_cons, List.flatten_nil, List.append_nil]
 have hloop : ∃ r, mewslaw43.ConnPieces.loop2 pieces t' (stR t'.Limits [] 0) = some r ∧
   (r = .inr true ∨ (textM t'.In (runP (startP emptyIn pieces.flatten t'.Limits)) (sizeQ (runP (startP emptyIn pieces.flatten t'.Limits)).out) = [] ∧
    r = .inl ((stR t'.Limits pieces.flatten 0).got, (stR t'.Limits pieces.flatten 0).all_, (stR t'.Limits pieces.flatten 0).c, (stR t'.Limits pieces.flatten 0).c2, (stR t'.Limits pieces.flatten 0).c3, (stR t'.Limits pieces.flatten 0).c4, (stR t'.Limits pieces.flatten 0).c5, (stR t'.Limits pieces.flatten 0).c6, (stR t'.Limits pieces.flatten 0).c7, (stR t'.Limits pieces.flatten 0).c8, (stR t'.Limits pieces.flatten 0).c9, (stR t'.Limits pieces.flatten 0).c10, (stR t'.Limits pieces.flatten 0).c11, (stR t'.Limits pieces.flatten 0).c12, (stR t'.Limits pieces.flatten 0).c13, (stR t'.Limits pieces.flatten 0).c14, (stR t'.Limits pieces.flatten 0).c15))) := by
  unfold mewslaw43.ConnPieces.loop2
  refine whileO_dec (fun s => ∃ i : Nat, i ≤ pieces.length ∧ s = stR t'.Limits (pieces.take i).flatten (i : Int) ∧ textM t'.In (runP (startP emptyIn (pieces.take i).flatten t'.Limits)) (sizeQ (runP (startP emptyIn (pieces.take i).flatten t'.Limits)).out) = []) (fun s => pieces.length - s.t39.toNat) _ (fun s hs => ?_) _ ⟨0, Nat.zero_le _, rfl, text_start t' hti.1 hti.2⟩
  obtain ⟨i, hi, rfl, htx⟩ := hs
  have hlen : (pieces.take i).flatten.length ≤ 3000 := by rw [flat_len]; have := htake i; omega
  by_cases hil : i < pieces.length
  ·have hlen2 : (pieces.take (i + 1)).flatten.length ≤ 3000 := by rw [flat_len]; have := htake (i + 1); omega
   have hfl := hflat i hil
   rw [hfl, List.length_append] at hlen2
   have hst := pieces_step t' pieces i hil (by omega) (pieces.take i).flatten (by omega) (text_dead htx)
   by_cases htn : textM t'.In (runP (startP emptyIn ((pieces.take i).flatten ++ pieces[i]) t'.Limits)) (sizeQ (runP (startP emptyIn ((pieces.take i).flatten ++ pieces[i]) t'.Limits)).out) = []
   ·rw [if_pos htn] at hst
    refine .inl ⟨_, hst, ⟨i + 1, by omega, by rw [hfl], by rw [hfl]; exact htn⟩, ?_⟩
    show pieces.length - ((i + 1 : Nat) : Int).toNat < pieces.length - (i : Int).toNat; omega
   ·rw [if_neg htn] at hst
    exact .inr ⟨_, hst, .inl rfl⟩
  ·have : i = pieces.length := by omega
   subst this
   rw [List.take_length] at htx ⊢
   refine .inr ⟨_, ?_, .inr ⟨htx, rfl⟩⟩
   unfold mewslaw43.ConnPieces.body2
   rw [if_neg (show ¬ (stR t'.Limits pieces.flatten ((pieces.length : Nat) : Int)).t39 < (pieces.length : Int) from by show ¬ ((pieces.length : Nat) : Int) < (pieces.length : Int); omega)]
   rfl
 obtain ⟨r, g1, g2⟩ := hloop
 have hstart : stR t'.Limits [] 0 = ⟨([] : List api.Request), ([] : List UInt8), 0, openC.Born, openC.Tenant, openC.In.Rest, openC.In.Args, openC.In.Left, openC.In.Size, openC.In.Body, openC.In.Need, openC.In.Dead, openC.Asked, openC.Held, openC.Out, openC.Taken, openC.Shut, openC.Closed⟩ := by
  unfold stR
  rw [hrun0]
  rfl
 rw [← hstart, g1, Option.bind_some]
 rcases g2 with rfl | ⟨htx, rfl⟩
 ·rfl
 ·have hlen : pieces.flatten.length ≤ 3000 := by rw [flat_len]; omega
  obtain ⟨outs, o1, o2⟩ := readC_more t' [] pieces.flatten (by show 0 + pieces.flatten.length ≤ _; omega) (by rw [hrun0]; rfl)
  rw [List.nil_append, hrun0] at o1
  rw [List.nil_append, hopenR, htx] at o2
  have hp2 := start_inv pieces.flatten t'.Limits (by omega)
  have hob := (runP_inv hp2).1
  have hout := runP_out hp2 (by intro r hr; cases hr)
  have ho1 : (runP (startP emptyIn pieces.flatten t'.Limits)).out = outs := o1
  show ((conn.Open 0).bind fun r363 => (conn.Read r363 pieces.flatten t').bind _) = _
  rw [hop, Option.bind_some, o2, Option.bind_some, if_pos rfl]
  show ((mewsref05.Same (runP (startP emptyIn pieces.flatten t'.Limits)).out outs).bind _).bind _ = _
  subst ho1
  have hb1 := hob.out
  rw [Same5_self _ (by omega) hout, Option.bind_some, if_pos rfl]
  have hargs := hob.args
  show ((if (stR t'.Limits pieces.flatten 0).c10 = sizeQ (runP (startP emptyIn pieces.flatten t'.Limits)).out then ((mewsref05.SameInput (inOf (runP (startP emptyIn pieces.flatten t'.Limits))) (inOf (runP (startP emptyIn pieces.flatten t'.Limits)))).bind _) else _)).bind _ = _
  rw [if_pos (show (stR t'.Limits pieces.flatten 0).c10 = sizeQ (runP (startP emptyIn pieces.flatten t'.Limits)).out from rfl), SameInput_self _ (by show (runP (startP emptyIn pieces.flatten t'.Limits)).in_.Args.length ≤ _; omega), Option.bind_some, if_pos rfl]
  rfl

end Go.Pu

namespace Go.Pu.Pure
open Go.Lift Go.Pu
theorem ConnPieces {a0 : api.Tenant} {a1 : List (List UInt8)} (h0 : api.Tenant.wf a0) (h1 : a1.length * 16 ≤ 140737488351232 ∧ ∀ y0, y0 ∈ a1 → y0.length ≤ 140737488351232) (hb1 : a1.length ≤ 1048576) : mewslaw43.ConnPieces a0 a1 = some true := ConnPieces_pure a0 a1 (by omega)
end Go.Pu.Pure
