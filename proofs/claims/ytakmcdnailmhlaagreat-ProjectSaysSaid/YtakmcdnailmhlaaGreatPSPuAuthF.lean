import Derived.Test.YtakmcdnailmhlaaGreatPSPuStream
set_option maxRecDepth 100000
namespace Go.Pu
open Go.Lift

theorem run_empty (l : api.Limits) : runP (startP emptyIn [] l) = startP emptyIn [] l := by
 rw [runP_stop]
 ·rfl
 ·rfl


theorem Find1_eq (s : List api.Tenant) (token : List UInt8) (hs : s.length < 9223372036854775807) :
  slices.IndexFunc_api_Tenant_auth_Find_1 s token = some (match idxF (fun t : api.Tenant => decide (t.Token = token)) s 0 with | some i => (i : Int) | none => -1) := by
 unfold slices.IndexFunc_api_Tenant_auth_Find_1 slices.IndexFunc_api_Tenant_auth_Find_1.loop0
 rw [whileO_idxE ⟨0⟩ (fun i => (⟨(i : Int)⟩ : slices.IndexFunc_api_Tenant_auth_Find_1.S0)) s (fun t : api.Tenant => decide (t.Token = token)) (fun i => .inr (i : Int)) (.inl ()) ?_ ?_]
 ·cases idxF (fun t : api.Tenant => decide (t.Token = token)) s 0 <;> rfl
 ·intro i hi
  unfold slices.IndexFunc_api_Tenant_auth_Find_1.body0 auth.Find_1
  simp only
  rw [if_pos (by omega), need_eq ⟨by omega, by omega⟩, ix_get hi, i64w (by omega) (by omega)]
  simp only [Option.bind_some, decide_eq_true_eq]
  split <;> simp
 ·unfold slices.IndexFunc_api_Tenant_auth_Find_1.body0
  simp


theorem rFind_eq (c : api.Config) (token : List UInt8) (hs : c.Tenants.length < 9223372036854775807) :
  mewsref42.Find c token = some (match idxF (fun t : api.Tenant => decide (t.Token = token)) c.Tenants 0 with | some i => (i : Int) | none => -1) := by
 unfold mewsref42.Find mewsref42.Find.loop0
 rw [whileO_idxE ⟨0⟩ (fun i => (⟨(i : Int)⟩ : mewsref42.Find.S0)) c.Tenants (fun t : api.Tenant => decide (t.Token = token)) (fun i => .inr (i : Int)) (.inl ()) ?_ ?_]
 ·cases idxF (fun t : api.Tenant => decide (t.Token = token)) c.Tenants 0 <;> rfl
 ·intro i hi
  unfold mewsref42.Find.body0
  simp only
  rw [if_pos (by omega), need_eq ⟨by omega, by omega⟩, ix_get hi, i64w (by omega) (by omega)]
  simp only [decide_eq_true_eq]
  split <;> simp
 ·unfold mewsref42.Find.body0
  simp


/-! ### Upper -/
def upC (c : UInt8) : UInt8 := if 97 ≤ c.toNat ∧ c.toNat ≤ 122 then UInt8.ofNat (c.toNat - 32) else c

theorem upper_byte (c : UInt8) : (if 97 ≤ (c.toNat : Int) then decide ((c.toNat : Int) ≤ 122) else false) = decide (97 ≤ c.toNat ∧ c.toNat ≤ 122) := by
 by_cases h : 97 ≤ (c.toNat : Int)
 ·rw [if_pos h]; apply decide_eq_decide.2; omega
 ·rw [if_neg h]; symm; rw [decide_eq_false_iff_not]; omega

theorem Upper_eq (s : List UInt8) (hs : s.length ≤ 1000000000) : table.Upper s = some (s.map upC) := by
 unfold table.Upper
 rw [need_eq (by omega)]
 have hloop : table.Upper.loop0 s ⟨0, s⟩ = some (s.map upC) := by
  unfold table.Upper.loop0
  let st : Nat → table.Upper.S0 := fun i => ⟨(i : Int), (s.take i).map upC ++ s.drop i⟩
  refine whileO_knownE _ st s.length (fun i hi => ?_) ?_ (by simp [st])
  ·have hl : ((s.take i).map upC ++ s.drop i).length = s.length := by simp; omega
   have hx : ix ((s.take i).map upC ++ s.drop i) (i : Int) = s[i] := by
    rw [ix_get (by omega), List.getElem_append_right (by simp; omega)]
    simp [List.getElem_drop]
    congr 1; omega
   have hc := s[i].toNat_lt
   have hnext : (s.take (i + 1)).map upC ++ s.drop (i + 1) = upd ((s.take i).map upC ++ s.drop i) (i : Int) (upC s[i]) := by
    unfold upd
    rw [Int.toNat_natCast, List.take_add_one, List.getElem?_eq_getElem hi]
    simp only [Option.toList_some, List.map_append, List.map_cons, List.map_nil]
    rw [List.set_append_right _ _ (by simp; omega)]
    have e0 : i - (List.map upC (s.take i)).length = 0 := by simp; omega
    rw [e0, List.drop_eq_getElem_cons hi, List.set_cons_zero, List.append_assoc]
    rfl
   unfold table.Upper.body0
   simp only [st, letO]
   rw [if_pos (by omega), need_eq ⟨by omega, by omega⟩, need_eq ⟨by omega, by omega⟩, hx, upper_byte, hnext]
   by_cases h : 97 ≤ s[i].toNat ∧ s[i].toNat ≤ 122
   ·rw [decide_eq_true h, if_pos rfl, need_eq ⟨by omega, by omega⟩, need_eq ⟨by omega, by omega⟩, u8w (n := (s[i].toNat : Int) - 97) (by omega) (by omega), u8w (by omega) (by omega)]
    have e : (s[i].toNat : Int) - 97 + 65 = ((upC s[i]).toNat : Int) := by
     unfold upC
     rw [if_pos h]
     simp; omega
    rw [e, need_eq (isU8_toNat _), u8_toNat]
    simp only [Option.bind_some]
    rw [i64w (by omega) (by omega)]
    rfl
   ·rw [decide_eq_false h]
    simp only [Bool.false_eq_true, if_false, Option.bind_some]
    have e : upC s[i] = s[i] := by unfold upC; rw [if_neg h]
    rw [e, i64w (by omega) (by omega)]
    have : upd ((s.take i).map upC ++ s.drop i) (i : Int) s[i] = (s.take i).map upC ++ s.drop i := by
     unfold upd
     rw [Int.toNat_natCast]
     have h2 : ((s.take i).map upC ++ s.drop i)[i]'(by omega) = s[i] := by
      rw [ix_get (by omega)] at hx; exact hx
     rw [← h2, List.set_getElem_self]
    rw [this]
    rfl
  ·unfold table.Upper.body0
   simp only [st]
   have hl : ((s.take s.length).map upC ++ s.drop s.length) = s.map upC := by simp
   rw [if_neg (by omega), hl]
 rw [hloop]
 rfl

theorem letters (k : Nat) (h : k < 26) : bix [97, 98, 99, 100, 101, 102, 103, 104, 105, 106, 107, 108, 109, 110, 111, 112, 113, 114, 115, 116, 117, 118, 119, 120, 121, 122] (k : Int) = 97 + (k : Int) ∧
  sub ([65, 66, 67, 68, 69, 70, 71, 72, 73, 74, 75, 76, 77, 78, 79, 80, 81, 82, 83, 84, 85, 86, 87, 88, 89, 90] : List UInt8) (k : Int) ((k : Int) + 1) = [UInt8.ofNat (65 + k)] := by
 have : ∀ k : Fin 26, bix [97, 98, 99, 100, 101, 102, 103, 104, 105, 106, 107, 108, 109, 110, 111, 112, 113, 114, 115, 116, 117, 118, 119, 120, 121, 122] (k.val : Int) = 97 + (k.val : Int) ∧
  sub ([65, 66, 67, 68, 69, 70, 71, 72, 73, 74, 75, 76, 77, 78, 79, 80, 81, 82, 83, 84, 85, 86, 87, 88, 89, 90] : List UInt8) (k.val : Int) ((k.val : Int) + 1) = [UInt8.ofNat (65 + k.val)] := by decide +kernel
 exact this ⟨k, h⟩

theorem rUpper2_eq (s : List UInt8) (hs : s.length ≤ 1000000000) (out : List UInt8) (i : Nat) (hi : i < s.length) : mewsref28.Upper.loop2 ⟨out, (i : Int)⟩ s ⟨[s[i]], 0⟩ = some [upC s[i]] := by
 have hc := s[i].toNat_lt
 unfold mewsref28.Upper.loop2
 let st : Nat → mewsref28.Upper.S2 := fun k => ⟨[if 97 ≤ s[i].toNat ∧ s[i].toNat < 97 + k then UInt8.ofNat (s[i].toNat - 32) else s[i]], (k : Int)⟩
 refine whileO_knownE _ st 26 (fun k hk => ?_) ?_ (by simp only [st]; rw [if_neg (by omega)]; rfl)
 ·obtain ⟨l1, l2⟩ := letters k hk
  unfold mewsref28.Upper.body2
  simp only [st]
  rw [if_pos (by omega), need_eq ⟨by omega, by omega⟩, need_eq ⟨by omega, by show (k : Int) < 26; omega⟩, bix_get' hi, l1, i64w (n := (k : Int) + 1) (by omega) (by omega), l2]
  by_cases h : (s[i].toNat : Int) = 97 + (k : Int)
  ·rw [if_pos h, need_eq ⟨by omega, by omega, by show (k : Int) + 1 ≤ 26; omega⟩]
   simp only [Option.bind_some]
   rw [if_pos (by omega), show 65 + k = s[i].toNat - 32 by omega]
   rfl
  ·rw [if_neg h]
   simp only [Option.bind_some]
   have e : (97 ≤ s[i].toNat ∧ s[i].toNat < 97 + (k + 1)) ↔ (97 ≤ s[i].toNat ∧ s[i].toNat < 97 + k) := by omega
   simp only [e]
   rfl
 ·unfold mewsref28.Upper.body2
  simp only [st]
  rw [if_neg (by omega)]
  unfold upC
  have e : (97 ≤ s[i].toNat ∧ s[i].toNat < 97 + 26) ↔ (97 ≤ s[i].toNat ∧ s[i].toNat ≤ 122) := by omega
  simp only [e]

theorem rUpper_eq (s : List UInt8) (hs : s.length ≤ 1000000000) : mewsref28.Upper s = some (s.map upC) := by
 unfold mewsref28.Upper
 have hloop : mewsref28.Upper.loop0 s ⟨[], 0⟩ = some (s.map upC) := by
  unfold mewsref28.Upper.loop0
  refine whileO_knownE _ (fun i => (⟨(s.take i).map upC, (i : Int)⟩ : mewsref28.Upper.S0)) s.length (fun i hi => ?_) ?_ (by simp)
  ·unfold mewsref28.Upper.body0
   simp only
   rw [if_pos (by omega), i64w (n := (i : Int) + 1) (by omega) (by omega), need_eq ⟨by omega, by omega, by omega⟩, sub_one hi, rUpper2_eq s hs _ i hi]
   simp only [Option.bind_some]
   rw [need_eq (by simp; omega), List.take_add_one, List.getElem?_eq_getElem hi]
   simp only [Option.toList_some, List.map_append, List.map_cons, List.map_nil]
   rfl
  ·unfold mewsref28.Upper.body0
   simp only
   rw [if_neg (by omega), List.take_length]
 rw [hloop]
 rfl

/-! ### A verdict -/
def findI (c : api.Config) (token : List UInt8) : Int := match idxF (fun t : api.Tenant => decide (t.Token = token)) c.Tenants 0 with | some i => (i : Int) | none => -1
def isAuth (args : List (List UInt8)) : Bool := decide (args.length = 2) && decide ((ix args 0).map upC = [65, 85, 84, 72])
def verdM (c : api.Config) (args : List (List UInt8)) : Int × Int :=
 if isAuth args = true then (if findI c (ix args 1) < 0 then (-1, 3) else (findI c (ix args 1), 1)) else (-1, 2)

theorem verdict_eq (c : api.Config) (args : List (List UInt8)) (hc : c.Tenants.length < 9223372036854775807) (ha : 1 ≤ args.length) (ha2 : args.length ≤ 1000000000) (hl : (ix args 0).length ≤ 1000000000) : auth.verdict c args = some (verdM c args) := by
 unfold auth.verdict verdM
 rw [need_eq ⟨by omega, by omega⟩, Upper_eq _ hl]
 simp only [Option.bind_some]
 have e : (if (ix args 0).map upC = [65, 85, 84, 72] then some (!decide ((args.length : Int) = 2)) else some true) = some (!isAuth args) := by
  unfold isAuth
  by_cases h : (ix args 0).map upC = [65, 85, 84, 72]
  ·rw [if_pos h, decide_eq_true h]
   by_cases h2 : args.length = 2
   ·rw [decide_eq_true h2, decide_eq_true (by omega)]; rfl
   ·rw [decide_eq_false h2, decide_eq_false (by omega)]; rfl
  ·rw [if_neg h, decide_eq_false h, Bool.and_false]; rfl
 rw [e]
 simp only [Option.bind_some]
 cases h : isAuth args with
 | false => rfl
 | true =>
  have h2 : args.length = 2 := by
   unfold isAuth at h
   rw [Bool.and_eq_true, decide_eq_true_eq] at h
   exact h.1
  simp only [Bool.not_true, Bool.false_eq_true, if_false, if_true]
  rw [need_eq ⟨by omega, by omega⟩]
  unfold auth.Find
  rw [Find1_eq _ _ hc]
  simp only [Option.bind_some]
  show (if findI c (ix args 1) < 0 then some ((-1 : Int), (3 : Int)) else some (findI c (ix args 1), 1)) = _
  split <;> rfl

theorem verd_v (c : api.Config) (args : List (List UInt8)) : (verdM c args).2 ≠ 0 ∧ (verdM c args).2 ≠ 4 := by
 unfold verdM
 split
 ·split
  ·exact ⟨by decide, by decide⟩
  ·exact ⟨show (1 : Int) ≠ 0 by decide, show (1 : Int) ≠ 4 by decide⟩
 ·exact ⟨by decide, by decide⟩

end Go.Pu

set_option maxRecDepth 100000
namespace Go.Pu
open Go.Lift

/-- Requests have arguments; they are not long. -/
structure ArgB (p : parse.parser) : Prop where
 out : ∀ r ∈ p.out, 1 ≤ r.Args.length ∧ ∀ x ∈ r.Args, x.length ≤ 100000000
 args : ∀ x ∈ p.in_.Args, x.length ≤ 100000000

theorem lineM_bulk {s : List UInt8} {l : api.Limits} {args : List (List UInt8)} {n : Nat} (h : lineM s l = .ok args n) : ∀ x ∈ args, (x.length : Int) ≤ l.Bulk := by
 unfold lineM at h
 split at h
 ·split at h
  ·cases h
  ·split at h
   ·cases h
   ·split at h
    ·cases h
    ·split at h
     ·cases h
     ·rename_i args' _ _ h6
      simp only [LR.ok.injEq] at h
      obtain ⟨rfl, rfl⟩ := h
      intro x hx
      have : ¬ l.Bulk < (x.length : Int) := fun hh => h6 (List.any_eq_true.2 ⟨x, hx, by simpa using hh⟩)
      omega
 ·split at h <;> cases h

theorem stepP_argB {p : parse.parser} (hp : PInv p) (h : ArgB p) : ArgB (stepP p).2 := by
 obtain ⟨h1, h2⟩ := h
 have hz := hp.size
 have hdead : ∀ e, ArgB (deadP p e) := fun e => ⟨h1, by intro x hx; cases hx⟩
 rw [stepP_R]
 unfold stepR
 by_cases c1 : p.in_.Body = true
 ·rw [if_pos c1]
  cases hc : crlfM (p.s.drop (needN p)) with
  | more => exact ⟨h1, h2⟩
  | dead => exact hdead _
  | ok =>
   have hx : (p.s.take (needN p)).length ≤ 100000000 := by rw [List.length_take]; omega
   have hargs : ∀ x ∈ p.in_.Args ++ [p.s.take (needN p)], x.length ≤ 100000000 := by
    intro x hxx
    rcases List.mem_append.1 hxx with hxx | hxx
    ·exact h2 x hxx
    ·rw [List.mem_singleton] at hxx; subst hxx; exact hx
   simp only
   unfold bodyP
   split
   ·refine ⟨fun r hr => ?_, by intro x hx; cases hx⟩
    rcases List.mem_append.1 hr with hr | hr
    ·exact h1 r hr
    ·rw [List.mem_singleton] at hr; subst hr; exact ⟨by simp, hargs⟩
   ·exact ⟨h1, hargs⟩
 ·rw [if_neg c1]
  by_cases c2 : 0 < p.in_.Left
  ·rw [if_pos c2]
   cases hdrM p.s 36 p.l.Bulk.toNat 6 with
   | more => exact ⟨h1, h2⟩
   | dead e => exact hdead _
   | ok n k => exact ⟨h1, h2⟩
  ·rw [if_neg c2]
   cases hps : p.s with
   | nil => exact ⟨h1, h2⟩
   | cons c t =>
    simp only
    rw [← hps]
    by_cases c3 : c = 42
    ·rw [if_pos c3]
     cases hdrM p.s 42 p.l.Args.toNat 7 with
     | more => exact ⟨h1, h2⟩
     | dead e => exact hdead _
     | ok n k =>
      simp only
      unfold manyHP
      split
      ·exact ⟨h1, by intro x hx; cases hx⟩
      ·exact ⟨h1, h2⟩
    ·rw [if_neg c3]
     cases hc : lineM p.s p.l with
     | more => exact ⟨h1, h2⟩
     | dead e => exact hdead _
     | ok args n =>
      have hb := lineM_bulk hc
      have hl := hp.lim.b
      refine ⟨?_, by intro x hx; cases hx⟩
      show ∀ r ∈ (if args ≠ [] then p.out ++ [({ Args := args, Size := p.in_.Size + (n + 1 : Nat) } : api.Request)] else p.out), _
      by_cases hne : args ≠ []
      ·rw [if_pos hne]
       intro r hr
       rcases List.mem_append.1 hr with hr | hr
       ·exact h1 r hr
       ·rw [List.mem_singleton] at hr; subst hr
        refine ⟨?_, fun x hx => by have := hb x hx; omega⟩
        cases args with
        | nil => exact absurd rfl hne
        | cons a as => simp
      ·rw [if_neg hne]; exact h1

theorem runP_argB {p : parse.parser} (hp : PInv p) (h : ArgB p) : ArgB (runP p) := by
 refine runP_ind (motive := fun p => ArgB p → ArgB (runP p)) (fun p hp hs h => ?_) (fun p hp hs ih h => ?_) p hp h
 ·rw [runP_stop hs]; exact stepP_argB hp h
 ·rw [runP_next hp hs]; exact ih (stepP_argB hp h)

/-! ### Byte by byte -/
def L16 : api.Limits := { Args := 16, Bulk := 1024, Line := 2048 }
noncomputable def qW (w : List UInt8) : parse.parser := runP (startP emptyIn w L16)
structure Quiet (w : List UInt8) : Prop where
 dead : (qW w).in_.Dead = 0
 out : (qW w).out = []

theorem qW_inv {w : List UInt8} (h : w.length ≤ 1000000) : PInv (qW w) ∧ ArgB (qW w) ∧ OutB (qW w).out := by
 have hs := start_inv w L16 (by omega)
 exact ⟨(runP_inv hs).1, runP_argB hs ⟨(fun r hr => by cases hr), (fun x hx => by cases hx)⟩, runP_out hs (fun r hr => by cases hr)⟩

theorem quiet_nil : Quiet [] := by
 exact ⟨by unfold qW; rw [run_empty]; rfl, by unfold qW; rw [run_empty]; rfl⟩

theorem quiet_step {w b : List UInt8} (h : Quiet w) (hl : w.length + b.length ≤ 1000000) : PInv (startP (inOf (qW w)) b L16) ∧ qW (w ++ b) = runP (startP (inOf (qW w)) b L16) := by
 obtain ⟨h1, h2⟩ := h
 rcases feed_more (all := w) (b := b) (l := L16) (by omega) with ⟨g1, g2, g3⟩ | ⟨e, g1, g2, g3⟩
 ·refine ⟨g2, ?_⟩
  show runP (startP emptyIn (w ++ b) L16) = _
  rw [g3]
  show addO _ (qW w).out = _
  rw [h2]
  rfl
 ·have := congrArg api.Input.Dead g2
  have : (qW w).in_.Dead = e := this
  omega

noncomputable def firstM (c : api.Config) : List UInt8 → List UInt8 → api.Input × List UInt8 × Int × Int
 | [], w => (inOf (qW w), [], -1, 0)
 | b :: s, w =>
  if (qW (w ++ [b])).in_.Dead = 0 then
   (if (qW (w ++ [b])).out = [] then firstM c s (w ++ [b]) else (emptyIn, s, (verdM c (ix (qW (w ++ [b])).out 0).Args).1, (verdM c (ix (qW (w ++ [b])).out 0).Args).2))
  else (inOf (qW (w ++ [b])), [], -1, 4)

theorem First_go (c : api.Config) (hc : c.Tenants.length < 9223372036854775807) (s w : List UInt8) (hl : w.length + s.length ≤ 1000000) : ∀ (t pre : List UInt8), s = pre ++ t → Quiet (w ++ pre) →
  ((auth.First.loop0 s c ⟨(pre.length : Int), (qW (w ++ pre)).s, (qW (w ++ pre)).in_.Args, (qW (w ++ pre)).in_.Left, (qW (w ++ pre)).in_.Size, (qW (w ++ pre)).in_.Body, (qW (w ++ pre)).in_.Need, (qW (w ++ pre)).in_.Dead⟩).bind fun s159 => onSum s159 (fun s120 =>
   some (({ Rest := s120.1, Args := s120.2.1, Left := s120.2.2.1, Size := s120.2.2.2.1, Body := s120.2.2.2.2.1, Need := s120.2.2.2.2.2.1, Dead := s120.2.2.2.2.2.2 } : api.Input), ([] : List UInt8), (-1), 0)) fun s159x => some s159x) = some (firstM c t (w ++ pre)) := by
 intro t
 induction t with
 | nil =>
  intro pre e hq
  rw [List.append_nil] at e
  have hloop : auth.First.loop0 s c ⟨(pre.length : Int), (qW (w ++ pre)).s, (qW (w ++ pre)).in_.Args, (qW (w ++ pre)).in_.Left, (qW (w ++ pre)).in_.Size, (qW (w ++ pre)).in_.Body, (qW (w ++ pre)).in_.Need, (qW (w ++ pre)).in_.Dead⟩ = some (.inl ((qW (w ++ pre)).s, (qW (w ++ pre)).in_.Args, (qW (w ++ pre)).in_.Left, (qW (w ++ pre)).in_.Size, (qW (w ++ pre)).in_.Body, (qW (w ++ pre)).in_.Need, (qW (w ++ pre)).in_.Dead)) := by
   unfold auth.First.loop0
   apply whileO_end
   unfold auth.First.body0
   simp only
   rw [if_neg (by rw [e]; omega)]
  rw [hloop]
  rfl
 | cons b t ih =>
  intro pre e hq
  have hlen : s.length = pre.length + (t.length + 1) := by rw [e]; simp
  have hone : sub s (pre.length : Int) ((pre.length : Int) + 1) = [b] := by
   rw [sub_one (by omega)]; simp [e]
  have hrest : sub s ((pre.length : Int) + 1) (s.length : Int) = t := by
   rw [sub_all, show ((pre.length : Int) + 1).toNat = (pre ++ [b]).length by rw [List.length_append, List.length_singleton]; omega, e, show pre ++ b :: t = (pre ++ [b]) ++ t by simp, List.drop_left]
  obtain ⟨g1, g2⟩ := quiet_step (b := [b]) hq (by simp; omega)
  have happ : w ++ pre ++ [b] = w ++ (pre ++ [b]) := by simp
  obtain ⟨i1, i2, i3⟩ := qW_inv (w := w ++ pre ++ [b]) (by simp; omega)
  have hfeed : parse.Feed ({ Rest := (qW (w ++ pre)).s, Args := (qW (w ++ pre)).in_.Args, Left := (qW (w ++ pre)).in_.Left, Size := (qW (w ++ pre)).in_.Size, Body := (qW (w ++ pre)).in_.Body, Need := (qW (w ++ pre)).in_.Need, Dead := (qW (w ++ pre)).in_.Dead } : api.Input) [b] L16 = some (inOf (qW (w ++ pre ++ [b])), (qW (w ++ pre ++ [b])).out, (qW (w ++ pre ++ [b])).in_.Dead) := by
   have := Feed_eq (inOf (qW (w ++ pre))) [b] L16 hq.dead g1
   rw [g2]
   exact this
  have hbody : auth.First.body0 s c ⟨(pre.length : Int), (qW (w ++ pre)).s, (qW (w ++ pre)).in_.Args, (qW (w ++ pre)).in_.Left, (qW (w ++ pre)).in_.Size, (qW (w ++ pre)).in_.Body, (qW (w ++ pre)).in_.Need, (qW (w ++ pre)).in_.Dead⟩ =
    if (qW (w ++ pre ++ [b])).in_.Dead = 0 then
     (if (qW (w ++ pre ++ [b])).out = [] then some (.inl ⟨((pre ++ [b]).length : Int), (qW (w ++ pre ++ [b])).s, (qW (w ++ pre ++ [b])).in_.Args, (qW (w ++ pre ++ [b])).in_.Left, (qW (w ++ pre ++ [b])).in_.Size, (qW (w ++ pre ++ [b])).in_.Body, (qW (w ++ pre ++ [b])).in_.Need, (qW (w ++ pre ++ [b])).in_.Dead⟩)
     else some (.inr (.inr (emptyIn, t, (verdM c (ix (qW (w ++ pre ++ [b])).out 0).Args).1, (verdM c (ix (qW (w ++ pre ++ [b])).out 0).Args).2))))
    else some (.inr (.inr (inOf (qW (w ++ pre ++ [b])), [], -1, 4))) := by
   unfold auth.First.body0
   simp only
   rw [if_pos (by omega), i64w (n := (pre.length : Int) + 1) (by omega) (by omega), need_eq ⟨by omega, by omega, by omega⟩, hone]
   show (parse.Feed _ [b] L16).bind _ = _
   rw [hfeed]
   simp only [Option.bind_some]
   by_cases hd : (qW (w ++ pre ++ [b])).in_.Dead = 0
   ·rw [if_pos hd, if_pos hd]
    by_cases ho : (qW (w ++ pre ++ [b])).out = []
    ·rw [if_pos ho, ho, if_neg (by simp)]
     simp only [List.length_append, List.length_singleton]
     rfl
    ·have hpos : 0 < (qW (w ++ pre ++ [b])).out.length := List.length_pos_iff.2 ho
     have hm : ix (qW (w ++ pre ++ [b])).out 0 ∈ (qW (w ++ pre ++ [b])).out := by
      rw [show (0 : Int) = ((0 : Nat) : Int) from rfl, ix_get hpos]; exact List.getElem_mem hpos
     obtain ⟨m1, m2⟩ := i2.out _ hm
     have m3 := i3 _ hm
     have m4 : (ix (ix (qW (w ++ pre ++ [b])).out 0).Args 0).length ≤ 1000000000 := by
      have := m2 (ix (ix (qW (w ++ pre ++ [b])).out 0).Args 0) (by rw [show (0 : Int) = ((0 : Nat) : Int) from rfl]; rw [ix_get (xs := (ix (qW (w ++ pre ++ [b])).out ((0 : Nat) : Int)).Args) (i := 0) m1]; exact List.getElem_mem m1)
      omega
     rw [if_neg ho, if_pos (by omega), need_eq ⟨by omega, by omega⟩, verdict_eq c _ hc m1 (by omega) m4]
     simp only [Option.bind_some]
     rw [need_eq ⟨by omega, by omega, by omega⟩, hrest]
   ·rw [if_neg hd, if_neg hd]
  rw [firstM]
  rw [happ] at hbody ⊢
  by_cases hd : (qW (w ++ (pre ++ [b]))).in_.Dead = 0
  ·rw [if_pos hd] at hbody ⊢
   by_cases ho : (qW (w ++ (pre ++ [b]))).out = []
   ·rw [if_pos ho] at hbody ⊢
    have := ih (pre ++ [b]) (by rw [e]; simp) ⟨hd, ho⟩
    rw [← this]
    cases hq2 : auth.First.loop0 s c ⟨((pre ++ [b]).length : Int), (qW (w ++ (pre ++ [b]))).s, (qW (w ++ (pre ++ [b]))).in_.Args, (qW (w ++ (pre ++ [b]))).in_.Left, (qW (w ++ (pre ++ [b]))).in_.Size, (qW (w ++ (pre ++ [b]))).in_.Body, (qW (w ++ (pre ++ [b]))).in_.Need, (qW (w ++ (pre ++ [b]))).in_.Dead⟩ with
    | none => rw [hq2] at this; cases this
    | some q =>
     unfold auth.First.loop0 at hq2 ⊢
     rw [whileO_next hbody hq2]
   ·rw [if_neg ho] at hbody ⊢
    unfold auth.First.loop0
    rw [whileO_end hbody]
    rfl
  ·rw [if_neg hd] at hbody ⊢
   unfold auth.First.loop0
   rw [whileO_end hbody]
   rfl

theorem First_eq (c : api.Config) (hc : c.Tenants.length < 9223372036854775807) (s w : List UInt8) (hl : w.length + s.length ≤ 1000000) (hq : Quiet w) : auth.First c (inOf (qW w)) s = some (firstM c s w) := by
 have := First_go c hc s w hl s [] rfl (by rw [List.append_nil]; exact hq)
 rw [List.append_nil] at this
 unfold auth.First
 rw [if_pos (show (inOf (qW w)).Dead = 0 from hq.dead)]
 exact this

end Go.Pu

set_option maxRecDepth 100000
namespace Go.Pu
open Go.Lift

noncomputable def toldM (c : api.Config) : List UInt8 → List UInt8 → Int × Int × Int
 | [], w => ((w.length : Int), -1, 0)
 | b :: s, w =>
  if (qW (w ++ [b])).in_.Dead = 0 then
   (if (qW (w ++ [b])).out = [] then toldM c s (w ++ [b]) else (((w.length + 1 : Nat) : Int), (verdM c (ix (qW (w ++ [b])).out 0).Args).1, (verdM c (ix (qW (w ++ [b])).out 0).Args).2))
  else (((w.length + 1 : Nat) : Int), -1, 4)

theorem Told_go (c : api.Config) (hc : c.Tenants.length < 9223372036854775807) (s : List UInt8) (hl : s.length ≤ 1000000) : ∀ (t pre : List UInt8), s = pre ++ t →
  ((mewsref42.Told.loop0 s c ⟨((pre.length + 1 : Nat) : Int)⟩).bind fun s552 => onSum s552 (fun s414 => some ((s.length : Int), (-1), 0)) fun s552x => some s552x) = some (toldM c t pre) := by
 intro t
 induction t with
 | nil =>
  intro pre e
  rw [List.append_nil] at e
  have hloop : mewsref42.Told.loop0 s c ⟨((pre.length + 1 : Nat) : Int)⟩ = some (.inl ()) := by
   unfold mewsref42.Told.loop0
   apply whileO_end
   unfold mewsref42.Told.body0
   simp only
   rw [if_neg (by rw [e]; omega)]
  rw [hloop, e]
  rfl
 | cons b t ih =>
  intro pre e
  have hlen : s.length = pre.length + (t.length + 1) := by rw [e]; simp
  have htake : sub s 0 ((pre.length + 1 : Nat) : Int) = pre ++ [b] := by
   rw [sub_zero, Int.toNat_natCast, e, show pre ++ b :: t = (pre ++ [b]) ++ t by simp, show pre.length + 1 = (pre ++ [b]).length by simp, List.take_left]
  obtain ⟨i1, i2, i3⟩ := qW_inv (w := pre ++ [b]) (by simp; omega)
  have ho1 := i1.out
  have hall : mewsref05.All (pre ++ [b]) ({ Args := 16, Bulk := 1024, Line := 2048 } : api.Limits) = some (inOf (qW (pre ++ [b])), (qW (pre ++ [b])).out) := All_eq (pre ++ [b]) L16 (by simp; omega)
  have hbody : mewsref42.Told.body0 s c ⟨((pre.length + 1 : Nat) : Int)⟩ =
    if (qW (pre ++ [b])).in_.Dead = 0 then
     (if (qW (pre ++ [b])).out = [] then some (.inl ⟨(((pre ++ [b]).length + 1 : Nat) : Int)⟩)
     else some (.inr (.inr (((pre.length + 1 : Nat) : Int), (verdM c (ix (qW (pre ++ [b])).out 0).Args).1, (verdM c (ix (qW (pre ++ [b])).out 0).Args).2))))
    else some (.inr (.inr (((pre.length + 1 : Nat) : Int), -1, 4))) := by
   unfold mewsref42.Told.body0
   simp only
   rw [if_pos (by omega), need_eq ⟨by omega, by omega, by omega⟩, htake, hall]
   simp only [Option.bind_some]
   rw [show (inOf (qW (pre ++ [b]))).Dead = (qW (pre ++ [b])).in_.Dead from rfl]
   by_cases hd : (qW (pre ++ [b])).in_.Dead = 0
   ·rw [if_pos hd, if_pos hd]
    by_cases ho : (qW (pre ++ [b])).out = []
    ·rw [if_pos ho, ho, if_pos (by rfl)]
     simp only [Option.bind_some, onSum]
     rw [i64w (by omega) (by omega)]
     simp only [List.length_append, List.length_singleton]
     rfl
    ·have hpos : 0 < (qW (pre ++ [b])).out.length := List.length_pos_iff.2 ho
     have hm : ix (qW (pre ++ [b])).out 0 ∈ (qW (pre ++ [b])).out := by
      rw [show (0 : Int) = ((0 : Nat) : Int) from rfl, ix_get hpos]; exact List.getElem_mem hpos
     obtain ⟨m1, m2⟩ := i2.out _ hm
     have m3 := i3 _ hm
     have m4 : (ix (ix (qW (pre ++ [b])).out 0).Args 0).length ≤ 1000000000 := by
      have := m2 (ix (ix (qW (pre ++ [b])).out 0).Args 0) (by rw [show (0 : Int) = ((0 : Nat) : Int) from rfl]; rw [ix_get (xs := (ix (qW (pre ++ [b])).out ((0 : Nat) : Int)).Args) (i := 0) m1]; exact List.getElem_mem m1)
      omega
     rw [if_neg ho, if_neg (by omega), need_eq ⟨by omega, by omega⟩]
     generalize (ix (qW (pre ++ [b])).out 0).Args = args at m1 m2 m3 m4 ⊢
     have e1 : (if (args.length : Int) = 2 then need (InB 0 args.length) ((mewsref28.Upper (ix args 0)).bind fun r543 => some (!decide (r543 = [65, 85, 84, 72]))) else some true) = some (!isAuth args) := by
      unfold isAuth
      by_cases h2 : args.length = 2
      ·rw [if_pos (by omega), need_eq ⟨by omega, by omega⟩, rUpper_eq _ m4, decide_eq_true h2]; rfl
      ·rw [if_neg (by omega), decide_eq_false h2]; rfl
     rw [e1]
     simp only [Option.bind_some]
     unfold verdM
     cases h : isAuth args with
     | false => rfl
     | true =>
      have h2 : args.length = 2 := by
       unfold isAuth at h
       rw [Bool.and_eq_true, decide_eq_true_eq] at h
       exact h.1
      simp only [Bool.not_true, Bool.false_eq_true, if_false, if_true]
      rw [need_eq ⟨by omega, by omega⟩, rFind_eq _ _ hc]
      simp only [Option.bind_some]
      show (if findI c (ix args 1) < 0 then _ else _ : Option _).bind _ = _
      by_cases hf : findI c (ix args 1) < 0
      ·rw [if_pos hf, if_pos hf]; rfl
      ·rw [if_neg hf, if_neg hf]; rfl
   ·rw [if_neg hd, if_neg hd]; rfl
  rw [toldM]
  by_cases hd : (qW (pre ++ [b])).in_.Dead = 0
  ·rw [if_pos hd] at hbody ⊢
   by_cases ho : (qW (pre ++ [b])).out = []
   ·rw [if_pos ho] at hbody ⊢
    have := ih (pre ++ [b]) (by rw [e]; simp)
    rw [← this]
    cases hq2 : mewsref42.Told.loop0 s c ⟨(((pre ++ [b]).length + 1 : Nat) : Int)⟩ with
    | none => rw [hq2] at this; cases this
    | some q =>
     unfold mewsref42.Told.loop0 at hq2 ⊢
     rw [whileO_next hbody hq2]
   ·rw [if_neg ho] at hbody ⊢
    unfold mewsref42.Told.loop0
    rw [whileO_end hbody]
    rfl
  ·rw [if_neg hd] at hbody ⊢
   unfold mewsref42.Told.loop0
   rw [whileO_end hbody]
   rfl

theorem Told_eq (c : api.Config) (hc : c.Tenants.length < 9223372036854775807) (s : List UInt8) (hl : s.length ≤ 1000000) : mewsref42.Told c s = some (toldM c s []) :=
 Told_go c hc s hl s [] rfl

def QuietAll (w : List UInt8) : Prop := ∀ k, k ≤ w.length → Quiet (w.take k)
theorem QuietAll.self {w : List UInt8} (h : QuietAll w) : Quiet w := by
 have := h w.length (Nat.le_refl _)
 rwa [List.take_length] at this
theorem quietAll_nil : QuietAll [] := fun k hk => by rw [List.take_nil]; exact quiet_nil

/-- What First tells, and what Told tells. -/
theorem first_told (c : api.Config) : ∀ (s w : List UInt8), (firstM c s w).2.2.1 = (toldM c s w).2.1 ∧ (firstM c s w).2.2.2 = (toldM c s w).2.2 ∧
  ((firstM c s w).2.2.2 = 0 → (firstM c s w).2.1 = [] ∧ (firstM c s w).1 = inOf (qW (w ++ s)) ∧ ∀ k, 1 ≤ k → k ≤ s.length → Quiet (w ++ s.take k)) ∧
  ((firstM c s w).2.2.2 = 4 → (firstM c s w).2.1 = []) ∧
  ((firstM c s w).2.2.2 ≠ 0 → (firstM c s w).2.2.2 ≠ 4 → ∃ n : Nat, (toldM c s w).1 = (n : Int) ∧ n ≤ (w ++ s).length ∧ (firstM c s w).2.1 = (w ++ s).drop n)
 | [], w => by
  rw [firstM, toldM]
  exact ⟨rfl, rfl, fun _ => ⟨rfl, by rw [List.append_nil], fun k h1 h2 => by simp at h2; omega⟩, (fun h => by cases h), fun h => absurd rfl h⟩
 | b :: s, w => by
  rw [firstM, toldM]
  by_cases hd : (qW (w ++ [b])).in_.Dead = 0
  ·rw [if_pos hd, if_pos hd]
   by_cases ho : (qW (w ++ [b])).out = []
   ·rw [if_pos ho, if_pos ho]
    obtain ⟨h1, h2, h3, h4, h5⟩ := first_told c s (w ++ [b])
    have e : w ++ [b] ++ s = w ++ b :: s := by simp
    rw [e] at h3 h5
    refine ⟨h1, h2, fun h => ?_, h4, h5⟩
    obtain ⟨g1, g2, g3⟩ := h3 h
    refine ⟨g1, g2, fun k hk1 hk2 => ?_⟩
    by_cases k1 : k = 1
    ·subst k1; exact ⟨hd, ho⟩
    ·have := g3 (k - 1) (by omega) (by simp at hk2; omega)
     obtain ⟨m, rfl⟩ : ∃ m, k = m + 1 := ⟨k - 1, by omega⟩
     simpa using this
   ·rw [if_neg ho, if_neg ho]
    have hv := verd_v c (ix (qW (w ++ [b])).out 0).Args
    refine ⟨rfl, rfl, fun h => absurd h hv.1, fun h => absurd h hv.2, fun _ _ => ⟨w.length + 1, rfl, by simp, ?_⟩⟩
    rw [show w ++ b :: s = (w ++ [b]) ++ s by simp, show w.length + 1 = (w ++ [b]).length by simp, List.drop_left]
  ·rw [if_neg hd, if_neg hd]
   exact ⟨rfl, rfl, (fun h => by cases h), fun _ => rfl, fun _ h => absurd rfl h⟩

noncomputable def labelM (c : api.Config) : List (List UInt8) → List UInt8 → Int
 | [], _ => -1
 | s :: ps, w => if (firstM c s w).2.2.2 = 0 then labelM c ps (w ++ s) else (firstM c s w).2.2.1

theorem quietAll_more {c : api.Config} {w s : List UInt8} (h : QuietAll w) (hv : (firstM c s w).2.2.2 = 0) : QuietAll (w ++ s) := by
 obtain ⟨_, _, g⟩ := (first_told c s w).2.2.1 hv
 intro k hk
 by_cases h1 : k ≤ w.length
 ·rw [List.take_append_of_le_length h1]; exact h k h1
 ·rw [List.take_append, List.take_of_length_le (by omega)]
  exact g (k - w.length) (by omega) (by simp at hk; omega)

theorem Label_go (c : api.Config) (hc : c.Tenants.length < 9223372036854775807) (pieces : List (List UInt8)) (hn : pieces.length ≤ 1000) : ∀ (rest pre : List (List UInt8)) (w : List UInt8), pieces = pre ++ rest → QuietAll w → w.length + lenS rest ≤ 1000000 →
  ((auth.Label.loop0 pieces c ⟨(pre.length : Int), (qW w).s, (qW w).in_.Args, (qW w).in_.Left, (qW w).in_.Size, (qW w).in_.Body, (qW w).in_.Need, (qW w).in_.Dead⟩).bind fun s96 => onSum s96 (fun s72 =>
  some (-1)) fun s96x => some s96x) = some (labelM c rest w) := by
 intro rest
 induction rest with
 | nil =>
  intro pre w e hq hl
  rw [List.append_nil] at e
  have hloop : auth.Label.loop0 pieces c ⟨(pre.length : Int), (qW w).s, (qW w).in_.Args, (qW w).in_.Left, (qW w).in_.Size, (qW w).in_.Body, (qW w).in_.Need, (qW w).in_.Dead⟩ = some (.inl ()) := by
   unfold auth.Label.loop0
   apply whileO_end
   unfold auth.Label.body0
   simp only
   rw [if_neg (by rw [e]; omega)]
  rw [hloop]
  rfl
 | cons s rest ih =>
  intro pre w e hq hl
  simp only [lenS] at hl
  have hlen : pieces.length = pre.length + (rest.length + 1) := by rw [e]; simp
  have hx : ix pieces (pre.length : Int) = s := by rw [ix_get (by omega)]; simp [e]
  have hbody : auth.Label.body0 pieces c ⟨(pre.length : Int), (qW w).s, (qW w).in_.Args, (qW w).in_.Left, (qW w).in_.Size, (qW w).in_.Body, (qW w).in_.Need, (qW w).in_.Dead⟩ =
    if (firstM c s w).2.2.2 = 0 then some (.inl ⟨((pre ++ [s]).length : Int), (firstM c s w).1.Rest, (firstM c s w).1.Args, (firstM c s w).1.Left, (firstM c s w).1.Size, (firstM c s w).1.Body, (firstM c s w).1.Need, (firstM c s w).1.Dead⟩)
    else some (.inr (.inr (firstM c s w).2.2.1)) := by
   unfold auth.Label.body0
   simp only
   rw [if_pos (by omega), need_eq ⟨by omega, by omega⟩, hx]
   show (auth.First c (inOf (qW w)) s).bind _ = _
   rw [First_eq c hc s w (by omega) hq.self]
   simp only [Option.bind_some]
   rw [i64w (by omega) (by omega)]
   simp only [List.length_append, List.length_singleton]
   rfl
  rw [labelM]
  by_cases hv : (firstM c s w).2.2.2 = 0
  ·rw [if_pos hv] at hbody ⊢
   obtain ⟨g1, g2, g3⟩ := (first_told c s w).2.2.1 hv
   rw [g2] at hbody
   have := ih (pre ++ [s]) (w ++ s) (by rw [e]; simp) (quietAll_more hq hv) (by simp; omega)
   rw [← this]
   cases hq2 : auth.Label.loop0 pieces c ⟨((pre ++ [s]).length : Int), (qW (w ++ s)).s, (qW (w ++ s)).in_.Args, (qW (w ++ s)).in_.Left, (qW (w ++ s)).in_.Size, (qW (w ++ s)).in_.Body, (qW (w ++ s)).in_.Need, (qW (w ++ s)).in_.Dead⟩ with
   | none => rw [hq2] at this; cases this
   | some q =>
    unfold auth.Label.loop0 at hq2 ⊢
    rw [whileO_next hbody hq2]
  ·rw [if_neg hv] at hbody ⊢
   unfold auth.Label.loop0
   rw [whileO_end hbody]
   rfl

theorem qW_nil : qW [] = startP emptyIn [] L16 := run_empty L16

theorem Label_eq (c : api.Config) (hc : c.Tenants.length < 9223372036854775807) (pieces : List (List UInt8)) (hn : pieces.length ≤ 1000) (hl : lenS pieces ≤ 1000000) : auth.Label c pieces = some (labelM c pieces []) := by
 have := Label_go c hc pieces hn pieces [] [] rfl quietAll_nil (by simpa using hl)
 rw [qW_nil] at this
 exact this

end Go.Pu
