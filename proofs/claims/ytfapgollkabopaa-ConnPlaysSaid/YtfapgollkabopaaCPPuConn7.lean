/- The pure law ConnPlays: the walk over the calls. -/
import Derived.Test.YtfapgollkabopaaCPPuConn6
set_option maxRecDepth 100000
namespace Go.Pu
open Go.Lift

def stC (all : List UInt8) (read : Int) (i : Int) (c : api.Conn) : mewslaw43.ConnPlays.S0 :=
 ⟨all, read, i, c.Born, c.Tenant, c.In.Rest, c.In.Args, c.In.Left, c.In.Size, c.In.Body, c.In.Need, c.In.Dead, c.Asked, c.Held, c.Out, c.Taken, c.Shut, c.Closed,
  c.Born, c.Tenant, c.In.Rest, c.In.Args, c.In.Left, c.In.Size, c.In.Body, c.In.Need, c.In.Dead, c.Asked, c.Held, c.Out, c.Taken, c.Shut, c.Closed⟩

theorem play_step (t : api.Tenant) (hti : 0 ≤ t.In ∧ t.In ≤ 1048576) (l : List mewslaw43.Op) (hl : l.length ≤ 3000) (hwf : ∀ o ∈ l, -9223372036854775808 ≤ o.N ∧ o.N < 9223372036854775808) (i : Nat) (hi : i < l.length) (m : Nat) (hm : m + l[i].S.length ≤ 3000)
  (all : List UInt8) (read : Int) (c : api.Conn) (h : PlayI t i m all read c) :
  ∃ all' read' c', mewslaw43.ConnPlays.body0 l t (stC all read (i : Int) c) = some (.inl (stC all' read' ((i + 1 : Nat) : Int) c')) ∧ PlayI t (i + 1) (m + l[i].S.length) all' read' c' := by
 have ho := hwf l[i] (List.getElem_mem hi)
 obtain ⟨h1, h2, h3, h4, ⟨k, h5, h6⟩, h7, h8⟩ := id h
 have hp := start_inv all t.Limits (by omega)
 have hq := (runP_inv hp).1
 have hqz := runP_size hp (start_size all t.Limits (by omega))
 have hnn := sizeQ_nn hqz.pos
 have hsum := hqz.sum
 have hsz := hq.size.1
 have hqa := hq.args
 have hasked : 0 ≤ c.Asked ∧ c.Asked ≤ 3000 := by omega
 have tail : ∀ {all' read' c'}, PlayI t (i + 1) (m + l[i].S.length) all' read' c' →
   ((mewsref43.Same c' c').bind fun r1461 => if (!r1461) = true then some true else (conn.Pending c').bind fun r1463 => (mewsref43.Pending c').bind fun r1464 => some (!decide (r1463 = r1464))) = some false := by
  intro all' read' c' hc'
  obtain ⟨g1, g2, g3, g4, ⟨k', g5, g6⟩, g7, g8⟩ := hc'
  have hp' := (runP_inv (start_inv all' t.Limits (by omega))).1.args
  refine play_tail c' (by omega) (by omega) ?_
  rw [g3]
  show (runP (startP emptyIn all' t.Limits)).in_.Args.length ≤ _
  omega
 have hw : IntKind.wrap .i64 ((i : Int) + 1) = ((i + 1 : Nat) : Int) := by rw [i64w (by omega) (by omega)]; omega
 obtain ⟨X, hX⟩ : ∃ X, X = mewslaw43.ConnPlays.body0 l t (stC all read (i : Int) c) := ⟨_, rfl⟩
 rw [← hX]
 unfold stC at hX
 unfold mewslaw43.ConnPlays.body0 at hX
 simp only at hX
 rw [if_pos (by omega), need_eq ⟨by omega, by omega⟩, ix_get hi, hw] at hX
 generalize l[i] = o at *
 rw [show ({ Born := c.Born, Tenant := c.Tenant, In := ({ Rest := c.In.Rest, Args := c.In.Args, Left := c.In.Left, Size := c.In.Size, Body := c.In.Body, Need := c.In.Need, Dead := c.In.Dead } : api.Input), Asked := c.Asked, Held := c.Held, Out := c.Out, Taken := c.Taken, Shut := c.Shut, Closed := c.Closed } : api.Conn) = c from rfl] at hX
 by_cases k0 : o.Kind = 0
 ·rw [if_pos k0] at hX
  by_cases hopen : c.Shut = true ∨ c.Closed = true
  ·-- nothing is read
   have hread : conn.Read c o.S t = some (c, [], []) := by
    unfold conn.Read
    simp only [letO]
    have : (if c.Shut = true then true else c.Closed) = true := by
     rcases hopen with h | h
     ·rw [if_pos h]
     ·split
      ·rfl
      ·exact h
    rw [this]; rfl
   have hg : (if (!c.Shut) = true then (!c.Closed) else false) = false := by
    rcases hopen with h | h <;> simp [h]
   rw [hread] at hX
   simp only [Option.bind_some, letO] at hX
   rw [hg] at hX
   simp only [Bool.false_eq_true, if_false, Option.bind_some, if_true] at hX
   rw [Same5_self [] (by simp) (fun r hr => by cases hr)] at hX
   simp only [Option.bind_some, Bool.not_true, Bool.false_eq_true, if_false, onSum] at hX
   have hc' := h.more (n' := i + 1) (m' := m + o.S.length) (by omega) (by omega)
   refine ⟨all, read, c, ?_, hc'⟩
   rw [hX]
   exact (congrArg (fun z => Option.bind z _) (tail hc')).trans rfl
  ·have hs : c.Shut = false := by cases hh : c.Shut with | false => rfl | true => exact absurd (.inl hh) hopen
   have hcl : c.Closed = false := by cases hh : c.Closed with | false => rfl | true => exact absurd (.inr hh) hopen
   obtain ⟨outs, e1, e2, e3, e4, e5, e6, e7⟩ := both_read c all o.S t (by omega) hs hcl h3 (h8 hs) ⟨hasked.1, by omega⟩ hti
   have hal : (all ++ o.S).length = all.length + o.S.length := by simp
   have hg : (if (!c.Shut) = true then (!c.Closed) else false) = true := by rw [hs, hcl]; rfl
   have hq2 := (runP_inv (start_inv (all ++ o.S) t.Limits (by omega))).1
   have hout2 := hq2.out
   rw [e6, h1] at hX
   simp only [Option.bind_some, letO] at hX
   rw [hg] at hX
   simp only [if_true] at hX
   rw [need_eq (by omega), e7] at hX
   simp only [Option.bind_some] at hX
   simp only [if_true] at hX
   rw [Same5_self outs (by omega) e4] at hX
   simp only [Option.bind_some, Bool.not_true, Bool.false_eq_true, if_false, onSum] at hX
   have hc' : PlayI t (i + 1) (m + o.S.length) (all ++ o.S) (((runP (startP emptyIn all t.Limits)).out.length : Int) + (outs.length : Int)) { c with In := inOf (runP (startP emptyIn (all ++ o.S) t.Limits)), Asked := c.Asked + sizeQ outs, Shut := !decide (textM t.In (runP (startP emptyIn (all ++ o.S) t.Limits)) (c.Asked + sizeQ outs) = []) } := by
    refine ⟨by rw [e1]; simp, by omega, rfl, by show c.Held.length ≤ _; omega, ⟨k, h5, by show k + c.Out.length + (bytesOf c.Held).length ≤ _; omega⟩, ⟨by show 0 ≤ c.Asked + sizeQ outs; omega, ?_⟩, fun hsh => ?_⟩
    ·show c.Asked + sizeQ outs ≤ _
     rw [e1, sizeQ_append]; omega
    ·have : textM t.In (runP (startP emptyIn (all ++ o.S) t.Limits)) (c.Asked + sizeQ outs) = [] := by simpa using hsh
     exact text_dead this
   rw [e1, List.length_append] at hout2
   rw [i64w (n := ((runP (startP emptyIn all t.Limits)).out.length : Int) + (outs.length : Int)) (by omega) (by omega)] at hX
   refine ⟨_, _, _, ?_, hc'⟩
   rw [hX]
   exact (congrArg (fun z => Option.bind z _) (tail hc')).trans rfl
 ·rw [if_neg k0] at hX
  by_cases k1 : o.Kind = 1
  ·rw [if_pos k1] at hX
   unfold conn.Done at hX
   simp only [Option.bind_some, onSum] at hX
   obtain ⟨d1, d2⟩ := done_eq c.Asked o.N ⟨hasked.1, by omega⟩ ho
   rw [d1, d2] at hX
   have hc' : PlayI t (i + 1) (m + o.S.length) all read { c with Asked := if o.N < 0 then c.Asked else if c.Asked < o.N then 0 else c.Asked - o.N } := by
    refine ⟨h1, by omega, h3, by show c.Held.length ≤ _; omega, ⟨k, h5, by show k + c.Out.length + (bytesOf c.Held).length ≤ _; omega⟩, ?_, h8⟩
    show 0 ≤ (if o.N < 0 then c.Asked else if c.Asked < o.N then 0 else c.Asked - o.N) ∧ (if o.N < 0 then c.Asked else if c.Asked < o.N then 0 else c.Asked - o.N) ≤ _
    split
    ·exact h7
    ·split <;> omega
   refine ⟨_, _, _, ?_, hc'⟩
   rw [hX]
   exact (congrArg (fun z => Option.bind z _) (tail hc')).trans rfl
  ·rw [if_neg k1] at hX
   by_cases k2 : o.Kind = 2
   ·rw [if_pos k2, Say_eq c _ _ _ _ (by omega) (by omega), rSay_eq c _ _ _ _ (by omega) (by omega)] at hX
    simp only [Option.bind_some, onSum] at hX
    have hc' := h.say o.S o.N o.M t.Out
    refine ⟨_, _, _, ?_, hc'⟩
    rw [hX]
    exact (congrArg (fun z => Option.bind z _) (tail hc')).trans rfl
   ·rw [if_neg k2] at hX
    by_cases k3 : o.Kind = 3
    ·rw [if_pos k3, Free_eq c _ (by omega) (by omega), rFree_eq c _ (by omega) (by omega)] at hX
     simp only [Option.bind_some, onSum] at hX
     have hc' := (h.free o.M).more (n' := i + 1) (m' := m + o.S.length) (by omega) (by omega)
     refine ⟨_, _, _, ?_, hc'⟩
     rw [hX]
     exact (congrArg (fun z => Option.bind z _) (tail hc')).trans rfl
    ·rw [if_neg k3] at hX
     by_cases k4 : o.Kind = 4
     ·rw [if_pos k4, rTake_eq c _ k h5 (by omega) (by omega), Take_eq c _ (by omega)] at hX
      simp only [Option.bind_some, if_true, onSum] at hX
      have ht : takeN c o.N ≤ c.Out.length := Nat.min_le_left _ _
      rw [h5, i64w (n := (k : Int) + _) (by omega) (by omega)] at hX
      have hc' : PlayI t (i + 1) (m + o.S.length) all read { c with Out := c.Out.drop (takeN c o.N), Taken := (k : Int) + (takeN c o.N : Int) } := by
       refine ⟨h1, by omega, h3, by show c.Held.length ≤ _; omega, ⟨k + takeN c o.N, by show (k : Int) + (takeN c o.N : Int) = _; omega, ?_⟩, h7, h8⟩
       show k + takeN c o.N + (c.Out.drop (takeN c o.N)).length + (bytesOf c.Held).length ≤ _
       rw [List.length_drop]; omega
      refine ⟨_, _, _, ?_, hc'⟩
      rw [hX]
      exact (congrArg (fun z => Option.bind z _) (tail hc')).trans rfl
     ·rw [if_neg k4] at hX
      unfold conn.Shut at hX
      have hsh : PlayI t (i + 1) (m + o.S.length) all read { c with Shut := true } :=
       ⟨h1, by omega, h3, by show c.Held.length ≤ _; omega, ⟨k, h5, by show k + c.Out.length + (bytesOf c.Held).length ≤ _; omega⟩, h7, fun h => by cases h⟩
      rw [show ({ Born := c.Born, Tenant := c.Tenant, In := ({ Rest := c.In.Rest, Args := c.In.Args, Left := c.In.Left, Size := c.In.Size, Body := c.In.Body, Need := c.In.Need, Dead := c.In.Dead } : api.Input), Asked := c.Asked, Held := c.Held, Out := c.Out, Taken := c.Taken, Shut := true, Closed := c.Closed } : api.Conn) = { c with Shut := true } from rfl, Free_eq { c with Shut := true } _ (by show c.Held.length ≤ _; omega) (by show c.Out.length + (bytesOf c.Held).length ≤ _; omega), rFree_eq { c with Shut := true } _ (by show c.Held.length ≤ _; omega) (by show c.Out.length + (bytesOf c.Held).length ≤ _; omega)] at hX
      simp only [Option.bind_some, onSum] at hX
      have hc' := hsh.free (-1)
      refine ⟨_, _, _, ?_, hc'⟩
      rw [hX]
      exact (congrArg (fun z => Option.bind z _) (tail hc')).trans rfl

theorem ConnPlays_pure (t : api.Tenant) (l : List mewslaw43.Op) (hl : l.length < 9223372036854775807) (hwf : ∀ o ∈ l, -9223372036854775808 ≤ o.N ∧ o.N < 9223372036854775808) : mewslaw43.ConnPlays t l = some true := by
 unfold mewslaw43.ConnPlays
 rw [far43_eq l hl, Option.bind_some, alive43]
 by_cases hw : 3000 < opsW l
 ·rw [if_pos (by simpa using hw)]; rfl
 rw [if_neg (by simpa using hw)]
 have hsmall := opsW_le (l := l) (by omega)
 have hr : mewslaw43.right_ t = some (rightT t) := rfl
 rw [hr]
 unfold conn.Open mewslaw43.ConnPlays.loop0
 simp only [Option.bind_some]
 have hti : 0 ≤ (rightT t).In ∧ (rightT t).In ≤ 1048576 := by
  show 0 ≤ (if 1048576 < (if t.In < 0 then 0 else t.In) then 1048576 else (if t.In < 0 then 0 else t.In)) ∧ (if 1048576 < (if t.In < 0 then 0 else t.In) then 1048576 else (if t.In < 0 then 0 else t.In)) ≤ 1048576
  split <;> split <;> omega
 have hloop : whileO (mewslaw43.ConnPlays.body0 l (rightT t)) (stC [] 0 ((0 : Nat) : Int) { Born := 3, Tenant := -1, In := emptyIn, Asked := 0, Held := [], Out := [], Taken := 0, Shut := false, Closed := false }) = some (.inl ()) := by
  refine whileO_inv (fun i s => ∃ all read c, s = stC all read (i : Int) c ∧ PlayI (rightT t) i (opsL (l.take i)) all read c) l.length ?_ ?_ _ ⟨[], 0, { Born := 3, Tenant := -1, In := emptyIn, Asked := 0, Held := [], Out := [], Taken := 0, Shut := false, Closed := false }, rfl, ?_⟩
  ·rintro i s hi ⟨all, read, c, rfl, hc⟩
   have hLle : opsL (l.take (i + 1)) ≤ opsL l := by
    conv => rhs; rw [← List.take_append_drop (i + 1) l, opsL_append]
    omega
   have hL1 : opsL (l.take (i + 1)) = opsL (l.take i) + l[i].S.length := by
    rw [List.take_add_one, List.getElem?_eq_getElem hi, opsL_append]; simp [opsL]
   obtain ⟨all', read', c', h1, h2⟩ := play_step (rightT t) hti l (by omega) hwf i hi (opsL (l.take i)) (by omega) all read c hc
   refine ⟨_, h1, all', read', c', rfl, ?_⟩
   rw [hL1]; exact h2
  ·rintro s ⟨all, read, c, rfl, hc⟩
   unfold stC mewslaw43.ConnPlays.body0
   simp only
   rw [if_neg (by omega)]
  ·have he := run_empty (rightT t).Limits
   refine ⟨?_, by simp, ?_, by simp, ⟨0, rfl, by simp [bytesOf]⟩, ⟨by decide, ?_⟩, fun _ => ?_⟩
   ·rw [he]; rfl
   ·rw [he]; rfl
   ·rw [he]; exact Int.le_refl _
   ·rw [he]; rfl
 show ((whileO (mewslaw43.ConnPlays.body0 l (rightT t)) (stC [] 0 ((0 : Nat) : Int) { Born := 3, Tenant := -1, In := emptyIn, Asked := 0, Held := [], Out := [], Taken := 0, Shut := false, Closed := false })).bind _) = _
 rw [hloop]
 rfl

end Go.Pu

namespace Go.Pu.Pure
open Go.Lift Go.Pu
theorem ConnPlays {a0 : api.Tenant} {a1 : List mewslaw43.Op} (h0 : api.Tenant.wf a0) (h1 : a1.length * 40 ≤ 140737488351232 ∧ ∀ y0, y0 ∈ a1 → mewslaw43.Op.wf y0) : mewslaw43.ConnPlays a0 a1 = some true :=
 ConnPlays_pure a0 a1 (by omega) fun o ho => by
  obtain ⟨_, _, g, _⟩ := h1.2 o ho
  exact wfi64 g
end Go.Pu.Pure
