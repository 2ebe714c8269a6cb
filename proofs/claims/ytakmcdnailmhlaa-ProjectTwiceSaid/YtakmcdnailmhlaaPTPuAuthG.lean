import Derived.Test.YtakmcdnailmhlaaPTPuAuthF
set_option maxRecDepth 100000
namespace Go.Pu
open Go.Lift

/-- Requests have arguments; they are not long. -/
structure ArgB (p : parse.parser) : Prop where
 out : ∀ r ∈ p.out, 1 ≤ r.Args.length ∧ ∀ x ∈ r.Args, x.length ≤ 100000000
 args : ∀ x ∈ p.in_.Args, x.length ≤ 100000000

theorem lineM_bulk {s : List UInt8} {l : api.Limits} {args : List (List UInt8)} {n : Nat} (h : lineM s l = .ok args n) : ∀ x ∈ args, (x.length : Int) ≤ l.Bulk := by
 unfold lineM at h
 split at h
 ·split at h
  ·cases h
  ·split at h
   ·cases h
   ·split at h
    ·cases h
    ·split at h
     ·cases h
     ·rename_i args' _ _ h6
      simp only [LR.ok.injEq] at h
      obtain ⟨rfl, rfl⟩ := h
      intro x hx
      have : ¬ l.Bulk < (x.length : Int) := fun hh => h6 (List.any_eq_true.2 ⟨x, hx, by simpa using hh⟩)
      omega
 ·split at h <;> cases h

theorem stepP_argB {p : parse.parser} (hp : PInv p) (h : ArgB p) : ArgB (stepP p).2 := by
 obtain ⟨h1, h2⟩ := h
 have hz := hp.size
 have hdead : ∀ e, ArgB (deadP p e) := fun e => ⟨h1, by intro x hx; cases hx⟩
 rw [stepP_R]
 unfold stepR
 by_cases c1 : p.in_.Body = true
 ·rw [if_pos c1]
  cases hc : crlfM (p.s.drop (needN p)) with
  | more => exact ⟨h1, h2⟩
  | dead => exact hdead _
  | ok =>
   have hx : (p.s.take (needN p)).length ≤ 100000000 := by rw [List.length_take]; omega
   have hargs : ∀ x ∈ p.in_.Args ++ [p.s.take (needN p)], x.length ≤ 100000000 := by
    intro x hxx
    rcases List.mem_append.1 hxx with hxx | hxx
    ·exact h2 x hxx
    ·rw [List.mem_singleton] at hxx; subst hxx; exact hx
   simp only
   unfold bodyP
   split
   ·refine ⟨fun r hr => ?_, by intro x hx; cases hx⟩
    rcases List.mem_append.1 hr with hr | hr
    ·exact h1 r hr
    ·rw [List.mem_singleton] at hr; subst hr; exact ⟨by simp, hargs⟩
   ·exact ⟨h1, hargs⟩
 ·rw [if_neg c1]
  by_cases c2 : 0 < p.in_.Left
  ·rw [if_pos c2]
   cases hdrM p.s 36 p.l.Bulk.toNat 6 with
   | more => exact ⟨h1, h2⟩
   | dead e => exact hdead _
   | ok n k => exact ⟨h1, h2⟩
  ·rw [if_neg c2]
   cases hps : p.s with
   | nil => exact ⟨h1, h2⟩
   | cons c t =>
    simp only
    rw [← hps]
    by_cases c3 : c = 42
    ·rw [if_pos c3]
     cases hdrM p.s 42 p.l.Args.toNat 7 with
     | more => exact ⟨h1, h2⟩
     | dead e => exact hdead _
     | ok n k =>
      simp only
      unfold manyHP
      split
      ·exact ⟨h1, by intro x hx; cases hx⟩
      ·exact ⟨h1, h2⟩
    ·rw [if_neg c3]
     cases hc : lineM p.s p.l with
     | more => exact ⟨h1, h2⟩
     | dead e => exact hdead _
     | ok args n =>
      have hb := lineM_bulk hc
      have hl := hp.lim.b
      refine ⟨?_, by intro x hx; cases hx⟩
      show ∀ r ∈ (if args ≠ [] then p.out ++ [({ Args := args, Size := p.in_.Size + (n + 1 : Nat) } : api.Request)] else p.out), _
      by_cases hne : args ≠ []
      ·rw [if_pos hne]
       intro r hr
       rcases List.mem_append.1 hr with hr | hr
       ·exact h1 r hr
       ·rw [List.mem_singleton] at hr; subst hr
        refine ⟨?_, fun x hx => by have := hb x hx; omega⟩
        cases args with
        | nil => exact absurd rfl hne
        | cons a as => simp
      ·rw [if_neg hne]; exact h1

theorem runP_argB {p : parse.parser} (hp : PInv p) (h : ArgB p) : ArgB (runP p) := by
 refine runP_ind (motive := fun p => ArgB p → ArgB (runP p)) (fun p hp hs h => ?_) (fun p hp hs ih h => ?_) p hp h
 ·rw [runP_stop hs]; exact stepP_argB hp h
 ·rw [runP_next hp hs]; exact ih (stepP_argB hp h)

/-! ### Byte by byte -/
def L16 : api.Limits := { Args := 16, Bulk := 1024, Line := 2048 }
noncomputable def qW (w : List UInt8) : parse.parser := runP (startP emptyIn w L16)
structure Quiet (w : List UInt8) : Prop where
 dead : (qW w).in_.Dead = 0
 out : (qW w).out = []

theorem qW_inv {w : List UInt8} (h : w.length ≤ 1000000) : PInv (qW w) ∧ ArgB (qW w) ∧ OutB (qW w).out := by
 have hs := start_inv w L16 (by omega)
 exact ⟨(runP_inv hs).1, runP_argB hs ⟨(fun r hr => by cases hr), (fun x hx => by cases hx)⟩, runP_out hs (fun r hr => by cases hr)⟩

theorem quiet_nil : Quiet [] := by
 exact ⟨by unfold qW; rw [run_empty]; rfl, by unfold qW; rw [run_empty]; rfl⟩

theorem quiet_step {w b : List UInt8} (h : Quiet w) (hl : w.length + b.length ≤ 1000000) : PInv (startP (inOf (qW w)) b L16) ∧ qW (w ++ b) = runP (startP (inOf (qW w)) b L16) := by
 obtain ⟨h1, h2⟩ := h
 rcases feed_more (all := w) (b := b) (l := L16) (by omega) with ⟨g1, g2, g3⟩ | ⟨e, g1, g2, g3⟩
 ·refine ⟨g2, ?_⟩
  show runP (startP emptyIn (w ++ b) L16) = _
  rw [g3]
  show addO _ (qW w).out = _
  rw [h2]
  rfl
 ·have := congrArg api.Input.Dead g2
  have : (qW w).in_.Dead = e := this
  omega

noncomputable def firstM (c : api.Config) : List UInt8 → List UInt8 → api.Input × List UInt8 × Int × Int
 | [], w => (inOf (qW w), [], -1, 0)
 | b :: s, w =>
  if (qW (w ++ [b])).in_.Dead = 0 then
   (if (qW (w ++ [b])).out = [] then firstM c s (w ++ [b]) else (emptyIn, s, (verdM c (ix (qW (w ++ [b])).out 0).Args).1, (verdM c (ix (qW (w ++ [b])).out 0).Args).2))
  else (inOf (qW (w ++ [b])), [], -1, 4)

theorem First_go (c : api.Config) (hc : c.Tenants.length < 9223372036854775807) (s w : List UInt8) (hl : w.length + s.length ≤ 1000000) : ∀ (t pre : List UInt8), s = pre ++ t → Quiet (w ++ pre) →
  ((auth.First.loop0 s c ⟨(pre.length : Int), (qW (w ++ pre)).s, (qW (w ++ pre)).in_.Args, (qW (w ++ pre)).in_.Left, (qW (w ++ pre)).in_.Size, (qW (w ++ pre)).in_.Body, (qW (w ++ pre)).in_.Need, (qW (w ++ pre)).in_.Dead⟩).bind fun s159 => onSum s159 (fun s120 =>
   some (({ Rest := s120.1, Args := s120.2.1, Left := s120.2.2.1, Size := s120.2.2.2.1, Body := s120.2.2.2.2.1, Need := s120.2.2.2.2.2.1, Dead := s120.2.2.2.2.2.2 } : api.Input), ([] : List UInt8), (-1), 0)) fun s159x => some s159x) = some (firstM c t (w ++ pre)) := by
 intro t
 induction t with
 | nil =>
  intro pre e hq
  rw [List.append_nil] at e
  have hloop : auth.First.loop0 s c ⟨(pre.length : Int), (qW (w ++ pre)).s, (qW (w ++ pre)).in_.Args, (qW (w ++ pre)).in_.Left, (qW (w ++ pre)).in_.Size, (qW (w ++ pre)).in_.Body, (qW (w ++ pre)).in_.Need, (qW (w ++ pre)).in_.Dead⟩ = some (.inl ((qW (w ++ pre)).s, (qW (w ++ pre)).in_.Args, (qW (w ++ pre)).in_.Left, (qW (w ++ pre)).in_.Size, (qW (w ++ pre)).in_.Body, (qW (w ++ pre)).in_.Need, (qW (w ++ pre)).in_.Dead)) := by
   unfold auth.First.loop0
   apply whileO_end
   unfold auth.First.body0
   simp only
   rw [if_neg (by rw [e]; omega)]
  rw [hloop]
  rfl
 | cons b t ih =>
  intro pre e hq
  have hlen : s.length = pre.length + (t.length + 1) := by rw [e]; simp
  have hone : sub s (pre.length : Int) ((pre.length : Int) + 1) = [b] := by
   rw [sub_one (by omega)]; simp [e]
  have hrest : sub s ((pre.length : Int) + 1) (s.length : Int) = t := by
   rw [sub_all, show ((pre.length : Int) + 1).toNat = (pre ++ [b]).length by rw [List.length_append, List.length_singleton]; omega, e, show pre ++ b :: t = (pre ++ [b]) ++ t by simp, List.drop_left]
  obtain ⟨g1, g2⟩ := quiet_step (b := [b]) hq (by simp; omega)
  have happ : w ++ pre ++ [b] = w ++ (pre ++ [b]) := by simp
  obtain ⟨i1, i2, i3⟩ := qW_inv (w := w ++ pre ++ [b]) (by simp; omega)
  have hfeed : parse.Feed ({ Rest := (qW (w ++ pre)).s, Args := (qW (w ++ pre)).in_.Args, Left := (qW (w ++ pre)).in_.Left, Size := (qW (w ++ pre)).in_.Size, Body := (qW (w ++ pre)).in_.Body, Need := (qW (w ++ pre)).in_.Need, Dead := (qW (w ++ pre)).in_.Dead } : api.Input) [b] L16 = some (inOf (qW (w ++ pre ++ [b])), (qW (w ++ pre ++ [b])).out, (qW (w ++ pre ++ [b])).in_.Dead) := by
   have := Feed_eq (inOf (qW (w ++ pre))) [b] L16 hq.dead g1
   rw [g2]
   exact this
  have hbody : auth.First.body0 s c ⟨(pre.length : Int), (qW (w ++ pre)).s, (qW (w ++ pre)).in_.Args, (qW (w ++ pre)).in_.Left, (qW (w ++ pre)).in_.Size, (qW (w ++ pre)).in_.Body, (qW (w ++ pre)).in_.Need, (qW (w ++ pre)).in_.Dead⟩ =
    if (qW (w ++ pre ++ [b])).in_.Dead = 0 then
     (if (qW (w ++ pre ++ [b])).out = [] then some (.inl ⟨((pre ++ [b]).length : Int), (qW (w ++ pre ++ [b])).s, (qW (w ++ pre ++ [b])).in_.Args, (qW (w ++ pre ++ [b])).in_.Left, (qW (w ++ pre ++ [b])).in_.Size, (qW (w ++ pre ++ [b])).in_.Body, (qW (w ++ pre ++ [b])).in_.Need, (qW (w ++ pre ++ [b])).in_.Dead⟩)
     else some (.inr (.inr (emptyIn, t, (verdM c (ix (qW (w ++ pre ++ [b])).out 0).Args).1, (verdM c (ix (qW (w ++ pre ++ [b])).out 0).Args).2))))
    else some (.inr (.inr (inOf (qW (w ++ pre ++ [b])), [], -1, 4))) := by
   unfold auth.First.body0
   simp only
   rw [if_pos (by omega), i64w (n := (pre.length : Int) + 1) (by omega) (by omega), need_eq ⟨by omega, by omega, by omega⟩, hone]
   show (parse.Feed _ [b] L16).bind _ = _
   rw [hfeed]
   simp only [Option.bind_some]
   by_cases hd : (qW (w ++ pre ++ [b])).in_.Dead = 0
   ·rw [if_pos hd, if_pos hd]
    by_cases ho : (qW (w ++ pre ++ [b])).out = []
    ·rw [if_pos ho, ho, if_neg (by simp)]
     simp only [List.length_append, List.length_singleton]
     rfl
    ·have hpos : 0 < (qW (w ++ pre ++ [b])).out.length := List.length_pos_iff.2 ho
     have hm : ix (qW (w ++ pre ++ [b])).out 0 ∈ (qW (w ++ pre ++ [b])).out := by
      rw [show (0 : Int) = ((0 : Nat) : Int) from rfl, ix_get hpos]; exact List.getElem_mem hpos
     obtain ⟨m1, m2⟩ := i2.out _ hm
     have m3 := i3 _ hm
     have m4 : (ix (ix (qW (w ++ pre ++ [b])).out 0).Args 0).length ≤ 1000000000 := by
      have := m2 (ix (ix (qW (w ++ pre ++ [b])).out 0).Args 0) (by rw [show (0 : Int) = ((0 : Nat) : Int) from rfl]; rw [ix_get (xs := (ix (qW (w ++ pre ++ [b])).out ((0 : Nat) : Int)).Args) (i := 0) m1]; exact List.getElem_mem m1)
      omega
     rw [if_neg ho, if_pos (by omega), need_eq ⟨by omega, by omega⟩, verdict_eq c _ hc m1 (by omega) m4]
     simp only [Option.bind_some]
     rw [need_eq ⟨by omega, by omega, by omega⟩, hrest]
   ·rw [if_neg hd, if_neg hd]
  rw [firstM]
  rw [happ] at hbody ⊢
  by_cases hd : (qW (w ++ (pre ++ [b]))).in_.Dead = 0
  ·rw [if_pos hd] at hbody ⊢
   by_cases ho : (qW (w ++ (pre ++ [b]))).out = []
   ·rw [if_pos ho] at hbody ⊢
    have := ih (pre ++ [b]) (by rw [e]; simp) ⟨hd, ho⟩
    rw [← this]
    cases hq2 : auth.First.loop0 s c ⟨((pre ++ [b]).length : Int), (qW (w ++ (pre ++ [b]))).s, (qW (w ++ (pre ++ [b]))).in_.Args, (qW (w ++ (pre ++ [b]))).in_.Left, (qW (w ++ (pre ++ [b]))).in_.Size, (qW (w ++ (pre ++ [b]))).in_.Body, (qW (w ++ (pre ++ [b]))).in_.Need, (qW (w ++ (pre ++ [b]))).in_.Dead⟩ with
    | none => rw [hq2] at this; cases this
    | some q =>
     unfold auth.First.loop0 at hq2 ⊢
     rw [whileO_next hbody hq2]
   ·rw [if_neg ho] at hbody ⊢
    unfold auth.First.loop0
    rw [whileO_end hbody]
    rfl
  ·rw [if_neg hd] at hbody ⊢
   unfold auth.First.loop0
   rw [whileO_end hbody]
   rfl

theorem First_eq (c : api.Config) (hc : c.Tenants.length < 9223372036854775807) (s w : List UInt8) (hl : w.length + s.length ≤ 1000000) (hq : Quiet w) : auth.First c (inOf (qW w)) s = some (firstM c s w) := by
 have := First_go c hc s w hl s [] rfl (by rw [List.append_nil]; exact hq)
 rw [List.append_nil] at this
 unfold auth.First
 rw [if_pos (show (inOf (qW w)).Dead = 0 from hq.dead)]
 exact this

end Go.Pu
