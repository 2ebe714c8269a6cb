/- The pure law AuthFirst. -/
import Derived.Test.YtfapgollkabopaaAOPuAuth3
set_option maxRecDepth 100000
namespace Go.Pu
open Go.Lift

noncomputable def toldM (c : api.Config) : List UInt8 → List UInt8 → Int × Int × Int
 | [], w => ((w.length : Int), -1, 0)
 | b :: s, w =>
  if (qW (w ++ [b])).in_.Dead = 0 then
   (if (qW (w ++ [b])).out = [] then toldM c s (w ++ [b]) else (((w.length + 1 : Nat) : Int), (verdM c (ix (qW (w ++ [b])).out 0).Args).1, (verdM c (ix (qW (w ++ [b])).out 0).Args).2))
  else (((w.length + 1 : Nat) : Int), -1, 4)

theorem Told_go (c : api.Config) (hc : c.Tenants.length < 9223372036854775807) (s : List UInt8) (hl : s.length ≤ 1000000) : ∀ (t pre : List UInt8), s = pre ++ t →
  ((mewsref42.Told.loop0 s c ⟨((pre.length + 1 : Nat) : Int)⟩).bind fun s552 => onSum s552 (fun s414 => some ((s.length : Int), (-1), 0)) fun s552x => some s552x) = some (toldM c t pre) := by
 intro t
 induction t with
 | nil =>
  intro pre e
  rw [List.append_nil] at e
  have hloop : mewsref42.Told.loop0 s c ⟨((pre.length + 1 : Nat) : Int)⟩ = some (.inl ()) := by
   unfold mewsref42.Told.loop0
   apply whileO_end
   unfold mewsref42.Told.body0
   simp only
   rw [if_neg (by rw [e]; omega)]
  rw [hloop, e]
  rfl
 | cons b t ih =>
  intro pre e
  have hlen : s.length = pre.length + (t.length + 1) := by rw [e]; simp
  have htake : sub s 0 ((pre.length + 1 : Nat) : Int) = pre ++ [b] := by
   rw [sub_zero, Int.toNat_natCast, e, show pre ++ b :: t = (pre ++ [b]) ++ t by simp, show pre.length + 1 = (pre ++ [b]).length by simp, List.take_left]
  obtain ⟨i1, i2, i3⟩ := qW_inv (w := pre ++ [b]) (by simp; omega)
  have ho1 := i1.out
  have hall : mewsref05.All (pre ++ [b]) ({ Args := 16, Bulk := 1024, Line := 2048 } : api.Limits) = some (inOf (qW (pre ++ [b])), (qW (pre ++ [b])).out) := All_eq (pre ++ [b]) L16 (by simp; omega)
  have hbody : mewsref42.Told.body0 s c ⟨((pre.length + 1 : Nat) : Int)⟩ =
    if (qW (pre ++ [b])).in_.Dead = 0 then
     (if (qW (pre ++ [b])).out = [] then some (.inl ⟨(((pre ++ [b]).length + 1 : Nat) : Int)⟩)
     else some (.inr (.inr (((pre.length + 1 : Nat) : Int), (verdM c (ix (qW (pre ++ [b])).out 0).Args).1, (verdM c (ix (qW (pre ++ [b])).out 0).Args).2))))
    else some (.inr (.inr (((pre.length + 1 : Nat) : Int), -1, 4))) := by
   unfold mewsref42.Told.body0
   simp only
   rw [if_pos (by omega), need_eq ⟨by omega, by omega, by omega⟩, htake, hall]
   simp only [Option.bind_some]
   rw [show (inOf (qW (pre ++ [b]))).Dead = (qW (pre ++ [b])).in_.Dead from rfl]
   by_cases hd : (qW (pre ++ [b])).in_.Dead = 0
   ·rw [if_pos hd, if_pos hd]
    by_cases ho : (qW (pre ++ [b])).out = []
    ·rw [if_pos ho, ho, if_pos (by rfl)]
     simp only [Option.bind_some, onSum]
     rw [i64w (by omega) (by omega)]
     simp only [List.length_append, List.length_singleton]
     rfl
    ·have hpos : 0 < (qW (pre ++ [b])).out.length := List.length_pos_iff.2 ho
     have hm : ix (qW (pre ++ [b])).out 0 ∈ (qW (pre ++ [b])).out := by
      rw [show (0 : Int) = ((0 : Nat) : Int) from rfl, ix_get hpos]; exact List.getElem_mem hpos
     obtain ⟨m1, m2⟩ := i2.out _ hm
     have m3 := i3 _ hm
     have m4 : (ix (ix (qW (pre ++ [b])).out 0).Args 0).length ≤ 1000000000 := by
      have := m2 (ix (ix (qW (pre ++ [b])).out 0).Args 0) (by rw [show (0 : Int) = ((0 : Nat) : Int) from rfl]; rw [ix_get (xs := (ix (qW (pre ++ [b])).out ((0 : Nat) : Int)).Args) (i := 0) m1]; exact List.getElem_mem m1)
      omega
     rw [if_neg ho, if_neg (by omega), need_eq ⟨by omega, by omega⟩]
     generalize (ix (qW (pre ++ [b])).out 0).Args = args at m1 m2 m3 m4 ⊢
     have e1 : (if (args.length : Int) = 2 then need (InB 0 args.length) ((mewsref28.Upper (ix args 0)).bind fun r543 => some (!decide (r543 = [65, 85, 84, 72]))) else some true) = some (!isAuth args) := by
      unfold isAuth
      by_cases h2 : args.length = 2
      ·rw [if_pos (by omega), need_eq ⟨by omega, by omega⟩, rUpper_eq _ m4, decide_eq_true h2]; rfl
      ·rw [if_neg (by omega), decide_eq_false h2]; rfl
     rw [e1]
     simp only [Option.bind_some]
     unfold verdM
     cases h : isAuth args with
     | false => rfl
     | true =>
      have h2 : args.length = 2 := by
       unfold isAuth at h
       rw [Bool.and_eq_true, decide_eq_true_eq] at h
       exact h.1
      simp only [Bool.not_true, Bool.false_eq_true, if_false, if_true]
      rw [need_eq ⟨by omega, by omega⟩, rFind_eq _ _ hc]
      simp only [Option.bind_some]
      show (if findI c (ix args 1) < 0 then _ else _ : Option _).bind _ = _
      by_cases hf : findI c (ix args 1) < 0
      ·rw [if_pos hf, if_pos hf]; rfl
      ·rw [if_neg hf, if_neg hf]; rfl
   ·rw [if_neg hd, if_neg hd]; rfl
  rw [toldM]
  by_cases hd : (qW (pre ++ [b])).in_.Dead = 0
  ·rw [if_pos hd] at hbody ⊢
   by_cases ho : (qW (pre ++ [b])).out = []
   ·rw [if_pos ho] at hbody ⊢
    have := ih (pre ++ [b]) (by rw [e]; simp)
    rw [← this]
    cases hq2 : mewsref42.Told.loop0 s c ⟨(((pre ++ [b]).length + 1 : Nat) : Int)⟩ with
    | none => rw [hq2] at this; cases this
    | some q =>
     unfold mewsref42.Told.loop0 at hq2 ⊢
     rw [whileO_next hbody hq2]
   ·rw [if_neg ho] at hbody ⊢
    unfold mewsref42.Told.loop0
    rw [whileO_end hbody]
    rfl
  ·rw [if_neg hd] at hbody ⊢
   unfold mewsref42.Told.loop0
   rw [whileO_end hbody]
   rfl

theorem Told_eq (c : api.Config) (hc : c.Tenants.length < 9223372036854775807) (s : List UInt8) (hl : s.length ≤ 1000000) : mewsref42.Told c s = some (toldM c s []) :=
 Told_go c hc s hl s [] rfl

def QuietAll (w : List UInt8) : Prop := ∀ k, k ≤ w.length → Quiet (w.take k)
theorem QuietAll.self {w : List UInt8} (h : QuietAll w) : Quiet w := by
 have := h w.length (Nat.le_refl _)
 rwa [List.take_length] at this
theorem quietAll_nil : QuietAll [] := fun k hk => by rw [List.take_nil]; exact quiet_nil

theorem toldM_skip (c : api.Config) (s : List UInt8) : ∀ (w1 w0 : List UInt8), (∀ k, k ≤ w1.length → Quiet (w0 ++ w1.take k)) → toldM c (w1 ++ s) w0 = toldM c s (w0 ++ w1)
 | [], w0, _ => by rw [List.nil_append, List.append_nil]
 | b :: w1, w0, h => by
  have h1 := h 1 (by simp)
  simp only [List.take_succ_cons, List.take_zero] at h1
  rw [List.cons_append, toldM, if_pos h1.dead, if_pos h1.out, toldM_skip c s w1 (w0 ++ [b]) (fun k hk => by
   have := h (k + 1) (by simp; omega)
   simpa using this)]
  simp

/-- What First tells, and what Told tells. -/
theorem first_told (c : api.Config) : ∀ (s w : List UInt8), (firstM c s w).2.2.1 = (toldM c s w).2.1 ∧ (firstM c s w).2.2.2 = (toldM c s w).2.2 ∧
  ((firstM c s w).2.2.2 = 0 → (firstM c s w).2.1 = [] ∧ (firstM c s w).1 = inOf (qW (w ++ s)) ∧ ∀ k, 1 ≤ k → k ≤ s.length → Quiet (w ++ s.take k)) ∧
  ((firstM c s w).2.2.2 = 4 → (firstM c s w).2.1 = []) ∧
  ((firstM c s w).2.2.2 ≠ 0 → (firstM c s w).2.2.2 ≠ 4 → ∃ n : Nat, (toldM c s w).1 = (n : Int) ∧ n ≤ (w ++ s).length ∧ (firstM c s w).2.1 = (w ++ s).drop n)
 | [], w => by
  rw [firstM, toldM]
  exact ⟨rfl, rfl, fun _ => ⟨rfl, by rw [List.append_nil], fun k h1 h2 => by simp at h2; omega⟩, (fun h => by cases h), fun h => absurd rfl h⟩
 | b :: s, w => by
  rw [firstM, toldM]
  by_cases hd : (qW (w ++ [b])).in_.Dead = 0
  ·rw [if_pos hd, if_pos hd]
   by_cases ho : (qW (w ++ [b])).out = []
   ·rw [if_pos ho, if_pos ho]
    obtain ⟨h1, h2, h3, h4, h5⟩ := first_told c s (w ++ [b])
    have e : w ++ [b] ++ s = w ++ b :: s := by simp
    rw [e] at h3 h5
    refine ⟨h1, h2, fun h => ?_, h4, h5⟩
    obtain ⟨g1, g2, g3⟩ := h3 h
    refine ⟨g1, g2, fun k hk1 hk2 => ?_⟩
    by_cases k1 : k = 1
    ·subst k1; exact ⟨hd, ho⟩
    ·have := g3 (k - 1) (by omega) (by simp at hk2; omega)
     obtain ⟨m, rfl⟩ : ∃ m, k = m + 1 := ⟨k - 1, by omega⟩
     simpa using this
   ·rw [if_neg ho, if_neg ho]
    have hv := verd_v c (ix (qW (w ++ [b])).out 0).Args
    refine ⟨rfl, rfl, fun h => absurd h hv.1, fun h => absurd h hv.2, fun _ _ => ⟨w.length + 1, rfl, by simp, ?_⟩⟩
    rw [show w ++ b :: s = (w ++ [b]) ++ s by simp, show w.length + 1 = (w ++ [b]).length by simp, List.drop_left]
  ·rw [if_neg hd, if_neg hd]
   exact ⟨rfl, rfl, (fun h => by cases h), fun _ => rfl, fun _ h => absurd rfl h⟩

noncomputable def labelM (c : api.Config) : List (List UInt8) → List UInt8 → Int
 | [], _ => -1
 | s :: ps, w => if (firstM c s w).2.2.2 = 0 then labelM c ps (w ++ s) else (firstM c s w).2.2.1

theorem quietAll_more {c : api.Config} {w s : List UInt8} (h : QuietAll w) (hv : (firstM c s w).2.2.2 = 0) : QuietAll (w ++ s) := by
 obtain ⟨_, _, g⟩ := (first_told c s w).2.2.1 hv
 intro k hk
 by_cases h1 : k ≤ w.length
 ·rw [List.take_append_of_le_length h1]; exact h k h1
 ·rw [List.take_append, List.take_of_length_le (by omega)]
  exact g (k - w.length) (by omega) (by simp at hk; omega)

theorem Label_go (c : api.Config) (hc : c.Tenants.length < 9223372036854775807) (pieces : List (List UInt8)) (hn : pieces.length ≤ 1000) : ∀ (rest pre : List (List UInt8)) (w : List UInt8), pieces = pre ++ rest → QuietAll w → w.length + lenS rest ≤ 1000000 →
  ((auth.Label.loop0 pieces c ⟨(pre.length : Int), (qW w).s, (qW w).in_.Args, (qW w).in_.Left, (qW w).in_.Size, (qW w).in_.Body, (qW w).in_.Need, (qW w).in_.Dead⟩).bind fun s96 => onSum s96 (fun s72 =>
  some (-1)) fun s96x => some s96x) = some (labelM c rest w) := by
 intro rest
 induction rest with
 | nil =>
  intro pre w e hq hl
  rw [List.append_nil] at e
  have hloop : auth.Label.loop0 pieces c ⟨(pre.length : Int), (qW w).s, (qW w).in_.Args, (qW w).in_.Left, (qW w).in_.Size, (qW w).in_.Body, (qW w).in_.Need, (qW w).in_.Dead⟩ = some (.inl ()) := by
   unfold auth.Label.loop0
   apply whileO_end
   unfold auth.Label.body0
   simp only
   rw [if_neg (by rw [e]; omega)]
  rw [hloop]
  rfl
 | cons s rest ih =>
  intro pre w e hq hl
  simp only [lenS] at hl
  have hlen : pieces.length = pre.length + (rest.length + 1) := by rw [e]; simp
  have hx : ix pieces (pre.length : Int) = s := by rw [ix_get (by omega)]; simp [e]
  have hbody : auth.Label.body0 pieces c ⟨(pre.length : Int), (qW w).s, (qW w).in_.Args, (qW w).in_.Left, (qW w).in_.Size, (qW w).in_.Body, (qW w).in_.Need, (qW w).in_.Dead⟩ =
    if (firstM c s w).2.2.2 = 0 then some (.inl ⟨((pre ++ [s]).length : Int), (firstM c s w).1.Rest, (firstM c s w).1.Args, (firstM c s w).1.Left, (firstM c s w).1.Size, (firstM c s w).1.Body, (firstM c s w).1.Need, (firstM c s w).1.Dead⟩)
    else some (.inr (.inr (firstM c s w).2.2.1)) := by
   unfold auth.Label.body0
   simp only
   rw [if_pos (by omega), need_eq ⟨by omega, by omega⟩, hx]
   show (auth.First c (inOf (qW w)) s).bind _ = _
   rw [First_eq c hc s w (by omega) hq.self]
   simp only [Option.bind_some]
   rw [i64w (by omega) (by omega)]
   simp only [List.length_append, List.length_singleton]
   rfl
  rw [labelM]
  by_cases hv : (firstM c s w).2.2.2 = 0
  ·rw [if_pos hv] at hbody ⊢
   obtain ⟨g1, g2, g3⟩ := (first_told c s w).2.2.1 hv
   rw [g2] at hbody
   have := ih (pre ++ [s]) (w ++ s) (by rw [e]; simp) (quietAll_more hq hv) (by simp; omega)
   rw [← this]
   cases hq2 : auth.Label.loop0 pieces c ⟨((pre ++ [s]).length : Int), (qW (w ++ s)).s, (qW (w ++ s)).in_.Args, (qW (w ++ s)).in_.Left, (qW (w ++ s)).in_.Size, (qW (w ++ s)).in_.Body, (qW (w ++ s)).in_.Need, (qW (w ++ s)).in_.Dead⟩ with
   | none => rw [hq2] at this; cases this
   | some q =>
    unfold auth.Label.loop0 at hq2 ⊢
    rw [whileO_next hbody hq2]
  ·rw [if_neg hv] at hbody ⊢
   unfold auth.Label.loop0
   rw [whileO_end hbody]
   rfl

theorem qW_nil : qW [] = startP emptyIn [] L16 := run_empty L16

theorem Label_eq (c : api.Config) (hc : c.Tenants.length < 9223372036854775807) (pieces : List (List UInt8)) (hn : pieces.length ≤ 1000) (hl : lenS pieces ≤ 1000000) : auth.Label c pieces = some (labelM c pieces []) := by
 have := Label_go c hc pieces hn pieces [] [] rfl quietAll_nil (by simpa using hl)
 rw [qW_nil] at this
 exact this

/-- A loop that ends, and what is told of its end. -/
theorem whileO_endsQ {σ ρ : Type} {body : σ → Option (σ ⊕ ρ)} (st : Nat → σ → Prop) (n : Nat) (Q : ρ → Prop)
  (h : ∀ i s, i < n → st i s → (∃ r, body s = some (.inr r) ∧ Q r) ∨ (∃ s', body s = some (.inl s') ∧ st (i + 1) s')) (he : ∀ s, st n s → ∃ r, body s = some (.inr r) ∧ Q r) (s : σ) (h0 : st 0 s) : ∃ r, whileO body s = some r ∧ Q r := by
 have : ∀ m j s, j + m = n → st j s → ∃ r, whileO body s = some r ∧ Q r := by
  intro m
  induction m with
  | zero =>
   intro j s e hs
   obtain rfl : j = n := by omega
   obtain ⟨r, hr, hq⟩ := he s hs
   exact ⟨r, whileO_end hr, hq⟩
  | succ m ih =>
   intro j s e hs
   rcases h j s (by omega) hs with ⟨r, hr, hq⟩ | ⟨s', h1, h2⟩
   ·exact ⟨r, whileO_end hr, hq⟩
   ·obtain ⟨r, hr, hq⟩ := ih (j + 1) s' (by omega) h2
    exact ⟨r, whileO_next h1 hr, hq⟩
 exact this n 0 s (by omega) h0

/-! ### How much there is -/
theorem far42_eq (c : api.Config) (l : List (List UInt8)) (hs : c.Tenants.length < 9223372036854775807) (hl : l.length < 1000000000000000) : ∃ b, mewslaw42.far c l = some b ∧ (b = false → l.length ≤ 100 ∧ lenS l ≤ 300) := by
 have main : ∀ (rest pre : List (List UInt8)), l = pre ++ rest → lenS pre ≤ 300 →
   ∃ r, whileO (mewslaw42.far.body2 l) ⟨(lenS pre : Int), (pre.length : Int)⟩ = some r ∧ (r = .inr true ∨ (r = .inl () ∧ lenS l ≤ 300)) := by
  intro rest
  induction rest with
  | nil =>
   intro pre e hp
   rw [List.append_nil] at e
   refine ⟨.inl (), whileO_end ?_, .inr ⟨rfl, by rw [e]; exact hp⟩⟩
   unfold mewslaw42.far.body2
   simp only
   rw [e, if_neg (by omega)]
  | cons x rest ih =>
   intro pre e hp
   have hlen : l.length = pre.length + (rest.length + 1) := by rw [e]; simp
   have hx : ix l (pre.length : Int) = x := by
    rw [ix_get (by omega)]; simp [e]
   have hmin : (if 10000 < (x.length : Int) then (10000 : Int) else (x.length : Int)) = ((min x.length 10000 : Nat) : Int) := by
    by_cases h : 10000 < (x.length : Int)
    ·rw [if_pos h]; omega
    ·rw [if_neg h]; omega
   have hb : mewslaw42.far.body2 l ⟨(lenS pre : Int), (pre.length : Int)⟩ = if 300 < lenS pre + min x.length 10000 then some (.inr (.inr true)) else some (.inl ⟨((lenS pre + min x.length 10000 : Nat) : Int), ((pre.length + 1 : Nat) : Int)⟩) := by
    unfold mewslaw42.far.body2
    simp only
    rw [if_pos (by omega), need_eq ⟨by omega, by omega⟩, hx, hmin, i64w (n := (lenS pre : Int) + _) (by omega) (by omega), i64w (n := (pre.length : Int) + 1) (by omega) (by omega)]
    by_cases h : 300 < lenS pre + min x.length 10000
    ·rw [if_pos (by omega), if_pos h]
    ·rw [if_neg (by omega), if_neg h]; rfl
   by_cases h : 300 < lenS pre + min x.length 10000
   ·rw [if_pos h] at hb
    exact ⟨_, whileO_end hb, .inl rfl⟩
   ·rw [if_neg h] at hb
    have e1 : lenS (pre ++ [x]) = lenS pre + min x.length 10000 := by rw [lenS_append]; simp only [lenS]; omega
    obtain ⟨r, h1, h2⟩ := ih (pre ++ [x]) (by rw [e]; simp) (by rw [e1]; omega)
    rw [e1, show (pre ++ [x]).length = pre.length + 1 by simp] at h1
    exact ⟨r, whileO_next hb h1, h2⟩
 obtain ⟨r, h1, h2⟩ := main l [] rfl (by simp [lenS])
 obtain ⟨b, hb⟩ := far42_ends c l hs (by omega)
 refine ⟨b, hb, fun hbf => ?_⟩
 unfold mewslaw42.far at hb
 cases hr0 : mewslaw42.far.loop0 c ⟨0, 0⟩ with
 | none => rw [hr0] at hb; cases hb
 | some r0 =>
  rw [hr0] at hb
  have hl2 : mewslaw42.far.loop2 l ⟨0, 0⟩ = some r := h1
  simp only [Option.bind_some, hl2] at hb
  cases r0 with
  | inr b0 =>
   -- the loop over tenants tells true alone
   exfalso
   simp only [onSum, Option.some.injEq] at hb
   have : ∀ r, mewslaw42.far.loop0 c ⟨0, 0⟩ = some r → r = .inl () ∨ r = .inr true := by
    intro r hr
    obtain ⟨q, hq, hq2⟩ : ∃ q, mewslaw42.far.loop0 c ⟨0, 0⟩ = some q ∧ (q = .inl () ∨ q = .inr true) := by
     unfold mewslaw42.far.loop0
     refine whileO_endsQ (fun i s => s.t13 = (i : Int)) c.Tenants.length _ (fun i s hi hs' => ?_) (fun s hs' => ?_) _ rfl
     ·unfold mewslaw42.far.body0
      rw [hs', if_pos (by omega), need_eq ⟨by omega, by omega⟩]
      refine (ite_or _ _ _).elim (fun h => .inl ⟨_, h, .inr rfl⟩) (fun h => .inr ⟨_, h, ?_⟩)
      show IntKind.wrap .i64 ((i : Int) + 1) = ((i + 1 : Nat) : Int)
      rw [i64w (by omega) (by omega)]; omega
     ·unfold mewslaw42.far.body0
      rw [hs', if_neg (by omega)]
      exact ⟨_, rfl, .inl rfl⟩
    rw [hr] at hq
    obtain rfl := Option.some.inj hq
    exact hq2
   rcases this _ hr0 with h | h
   ·cases h
   ·injection h with h; rw [h] at hb; rw [← hb] at hbf; cases hbf
  | inl u =>
   rcases h2 with rfl | ⟨rfl, h2⟩
   ·simp only [onSum, Option.some.injEq] at hb
    rw [← hb] at hbf; cases hbf
   ·simp only [onSum, letO, Option.some.injEq] at hb
    refine ⟨?_, h2⟩
    by_cases hc : 100 < (c.Tenants.length : Int)
    ·rw [if_pos hc] at hb; rw [← hb] at hbf; cases hbf
    ·rw [if_neg hc] at hb
     rw [← hb, decide_eq_false_iff_not] at hbf
     omega

theorem labelM_cons (c : api.Config) (s : List UInt8) (ps : List (List UInt8)) (w : List UInt8) : labelM c (s :: ps) w = if (firstM c s w).2.2.2 = 0 then labelM c ps (w ++ s) else (firstM c s w).2.2.1 := by rw [labelM]

theorem AuthFirst_loop (c : api.Config) (hc : c.Tenants.length < 9223372036854775807) (pieces : List (List UInt8)) (hn : pieces.length ≤ 100) (hl : lenS pieces ≤ 300) : ∀ (rest pre : List (List UInt8)), pieces = pre ++ rest → QuietAll pre.flatten →
  (∀ r, labelM c (pre ++ r) [] = labelM c r pre.flatten) →
  ∃ x, mewslaw42.AuthFirst.loop0 pieces c ⟨pre.flatten, (pre.length : Int), (qW pre.flatten).s, (qW pre.flatten).in_.Args, (qW pre.flatten).in_.Left, (qW pre.flatten).in_.Size, (qW pre.flatten).in_.Body, (qW pre.flatten).in_.Need, (qW pre.flatten).in_.Dead⟩ = some x ∧ (x = .inr true ∨ (x = .inl () ∧ labelM c pieces [] = -1)) := by
 intro rest
 induction rest with
 | nil =>
  intro pre e hq hlab
  rw [List.append_nil] at e
  refine ⟨.inl (), ?_, .inr ⟨rfl, ?_⟩⟩
  ·unfold mewslaw42.AuthFirst.loop0
   apply whileO_end
   unfold mewslaw42.AuthFirst.body0
   simp only
   rw [if_neg (by rw [e]; omega)]
  ·have := hlab []
   rw [List.append_nil, ← e] at this
   rw [this, labelM]
 | cons s rest ih =>
  intro pre e hq hlab
  have hlen : pieces.length = pre.length + (rest.length + 1) := by rw [e]; simp
  have hx : ix pieces (pre.length : Int) = s := by rw [ix_get (by omega)]; simp [e]
  have hsum : lenS pre + (s.length + lenS rest) = lenS pieces := by rw [e, lenS_append]; rfl
  have hfl := flat_len pre
  have hflat : (pre ++ [s]).flatten = pre.flatten ++ s := by simp
  obtain ⟨f1, f2, f3, f4, f5⟩ := first_told c s pre.flatten
  have htold : mewsref42.Told c (pre.flatten ++ s) = some (toldM c s pre.flatten) := by
   rw [Told_eq c hc _ (by rw [List.length_append]; omega), toldM_skip c s pre.flatten [] (fun k hk => by rw [List.nil_append]; exact hq k hk), List.nil_append]
  have hfirst := First_eq c hc s pre.flatten (by omega) hq.self
  have hfirst' : auth.First c ({ Rest := (qW pre.flatten).s, Args := (qW pre.flatten).in_.Args, Left := (qW pre.flatten).in_.Left, Size := (qW pre.flatten).in_.Size, Body := (qW pre.flatten).in_.Body, Need := (qW pre.flatten).in_.Need, Dead := (qW pre.flatten).in_.Dead } : api.Input) s = some (firstM c s pre.flatten) := hfirst
  have hle1 : (pre.flatten ++ s).length ≤ 300 := by rw [List.length_append]; omega
  have hle2 : pre.flatten.length + s.length ≤ 300 := by omega
  by_cases hv : (firstM c s pre.flatten).2.2.2 = 0
  ·obtain ⟨g1, g2, g3⟩ := f3 hv
   have hq' := quietAll_more hq hv
   have hinv := (qW_inv (w := pre.flatten ++ s) (by omega)).1
   have ha := hinv.args
   have hall : mewsref05.All (pre.flatten ++ s) ({ Args := 16, Bulk := 1024, Line := 2048 } : api.Limits) = some (inOf (qW (pre.flatten ++ s)), (qW (pre.flatten ++ s)).out) := All_eq _ L16 (by omega)
   have hbody : mewslaw42.AuthFirst.body0 pieces c ⟨pre.flatten, (pre.length : Int), (qW pre.flatten).s, (qW pre.flatten).in_.Args, (qW pre.flatten).in_.Left, (qW pre.flatten).in_.Size, (qW pre.flatten).in_.Body, (qW pre.flatten).in_.Need, (qW pre.flatten).in_.Dead⟩ =
     some (.inl ⟨(pre ++ [s]).flatten, ((pre ++ [s]).length : Int), (qW (pre ++ [s]).flatten).s, (qW (pre ++ [s]).flatten).in_.Args, (qW (pre ++ [s]).flatten).in_.Left, (qW (pre ++ [s]).flatten).in_.Size, (qW (pre ++ [s]).flatten).in_.Body, (qW (pre ++ [s]).flatten).in_.Need, (qW (pre ++ [s]).flatten).in_.Dead⟩) := by
    unfold mewslaw42.AuthFirst.body0
    simp only
    rw [if_pos (by omega), need_eq ⟨by omega, by omega⟩, hx, hfirst']
    simp only [Option.bind_some]
    rw [need_eq (by omega), htold]
    simp only [Option.bind_some]
    rw [if_pos f1, if_pos f2]
    simp only [if_pos hv, g1, Option.bind_some, decide_true, Bool.not_true, Bool.false_eq_true, if_false]
    rw [need_eq (by omega), hall]
    simp only [Option.bind_some]
    rw [g2, SameInput_self _ (by show (qW (pre.flatten ++ s)).in_.Args.length ≤ _; omega)]
    simp only [Option.bind_some, Bool.not_true, Bool.false_eq_true, if_false]
    rw [need_eq (by omega), i64w (by omega) (by omega), hflat]
    simp only [List.length_append, List.length_singleton]
    rfl
   obtain ⟨x, h1, h2⟩ := ih (pre ++ [s]) (by rw [e]; simp) (by rw [hflat]; exact hq') (fun r => by
    have := hlab (s :: r)
    rw [labelM_cons, if_pos hv] at this
    rw [hflat, ← this]; simp)
   exact ⟨x, whileO_next hbody h1, h2⟩
  ·have hlabel1 : auth.Label c pieces = some (firstM c s pre.flatten).2.2.1 := by
    rw [Label_eq c hc pieces (by omega) (by omega)]
    have := hlab (s :: rest)
    rw [labelM_cons, if_neg hv, ← e] at this
    rw [this]
   have htk : sub pieces 0 ((pre.length : Int) + 1) = pre ++ [s] := by
    rw [sub_zero, show ((pre.length : Int) + 1).toNat = (pre ++ [s]).length by rw [List.length_append, List.length_singleton]; omega, e, show pre ++ s :: rest = (pre ++ [s]) ++ rest by simp, List.take_left]
   have hlabel2 : auth.Label c (pre ++ [s]) = some (firstM c s pre.flatten).2.2.1 := by
    rw [Label_eq c hc _ (by simp; omega) (by rw [lenS_append]; simp only [lenS]; omega)]
    have := hlab [s]
    rw [labelM_cons, if_neg hv] at this
    rw [this]
   refine ⟨.inr true, whileO_end ?_, .inl rfl⟩
   unfold mewslaw42.AuthFirst.body0
   simp only
   rw [if_pos (by omega), need_eq ⟨by omega, by omega⟩, hx, hfirst']
   simp only [Option.bind_some]
   rw [need_eq (by omega), htold]
   simp only [Option.bind_some]
   rw [if_pos f1, if_pos f2]
   simp only [if_neg hv]
   by_cases h4 : (firstM c s pre.flatten).2.2.2 = 4
   ·simp only [if_pos h4, f4 h4, Option.bind_some, decide_true, Bool.not_true, Bool.false_eq_true, if_false]
    rw [hlabel1]
    simp only [Option.bind_some, if_true]
    rw [i64w (by omega) (by omega), need_eq ⟨by omega, by omega, by omega⟩, htk, hlabel2]
    simp only [Option.bind_some, if_true]
    rw [alive42]
    rfl
   ·obtain ⟨n, m1, m2, m3⟩ := f5 hv h4
    simp only [if_neg h4]
    rw [need_eq (by omega), m1, need_eq ⟨by omega, by omega, by omega⟩, sub_all, Int.toNat_natCast, if_pos m3]
    simp only [Option.bind_some, Bool.false_eq_true, if_false]
    rw [hlabel1]
    simp only [Option.bind_some, if_true]
    rw [i64w (by omega) (by omega), need_eq ⟨by omega, by omega, by omega⟩, htk, hlabel2]
    simp only [Option.bind_some, if_true]
    rw [alive42]
    rfl

theorem AuthFirst_pure (c : api.Config) (pieces : List (List UInt8)) (hc : c.Tenants.length < 9223372036854775807) (hl : pieces.length < 1000000000000000) : mewslaw42.AuthFirst c pieces = some true := by
 unfold mewslaw42.AuthFirst
 obtain ⟨b, hf, hf2⟩ := far42_eq c pieces hc hl
 rw [hf, alive42]
 cases b with
 | true => rfl
 | false =>
  obtain ⟨g1, g2⟩ := hf2 rfl
  simp only [Option.bind_some, Bool.false_eq_true, if_false]
  obtain ⟨x, h1, h2⟩ := AuthFirst_loop c hc pieces g1 g2 pieces [] rfl quietAll_nil (fun r => rfl)
  rw [show ([] : List (List UInt8)).flatten = [] from rfl, qW_nil] at h1
  have h1' : mewslaw42.AuthFirst.loop0 pieces c ⟨([] : List UInt8), 0, ([] : List UInt8), ([] : List (List UInt8)), 0, 0, false, 0, 0⟩ = some x := h1
  rw [h1']
  rcases h2 with rfl | ⟨rfl, h2⟩
  ·rfl
  ·simp only [Option.bind_some, onSum]
   rw [Label_eq c hc pieces (by omega) (by omega), h2]
   rfl

end Go.Pu

namespace Go.Pu.Pure
open Go.Lift Go.Pu
theorem AuthFirst {a0 : api.Config} {a1 : List (List UInt8)} (h0 : api.Config.wf a0) (h1 : a1.length * 16 ≤ 140737488351232 ∧ ∀ y0, y0 ∈ a1 → y0.length ≤ 140737488351232) : mewslaw42.AuthFirst a0 a1 = some true := by
 obtain ⟨⟨h2, _⟩, _⟩ := h0
 exact AuthFirst_pure a0 a1 (by omega) (by omega)
end Go.Pu.Pure
