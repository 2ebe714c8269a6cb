import Derived.Test.YtakmcdnailmhlaaPTPuAuthG
set_option maxRecDepth 100000
namespace Go.Pu
open Go.Lift

noncomputable def toldM (c : api.Config) : List UInt8 → List UInt8 → Int × Int × Int
 | [], w => ((w.length : Int), -1, 0)
 | b :: s, w =>
  if (qW (w ++ [b])).in_.Dead = 0 then
   (if (qW (w ++ [b])).out = [] then toldM c s (w ++ [b]) else (((w.length + 1 : Nat) : Int), (verdM c (ix (qW (w ++ [b])).out 0).Args).1, (verdM c (ix (qW (w ++ [b])).out 0).Args).2))
  else (((w.length + 1 : Nat) : Int), -1, 4)

def QuietAll (w : List UInt8) : Prop := ∀ k, k ≤ w.length → Quiet (w.take k)
theorem QuietAll.self {w : List UInt8} (h : QuietAll w) : Quiet w := by
 have := h w.length (Nat.le_refl _)
 rwa [List.take_length] at this
theorem quietAll_nil : QuietAll [] := fun k hk => by rw [List.take_nil]; exact quiet_nil

/-- What First tells, and what Told tells. -/
theorem first_told (c : api.Config) : ∀ (s w : List UInt8), (firstM c s w).2.2.1 = (toldM c s w).2.1 ∧ (firstM c s w).2.2.2 = (toldM c s w).2.2 ∧
  ((firstM c s w).2.2.2 = 0 → (firstM c s w).2.1 = [] ∧ (firstM c s w).1 = inOf (qW (w ++ s)) ∧ ∀ k, 1 ≤ k → k ≤ s.length → Quiet (w ++ s.take k)) ∧
  ((firstM c s w).2.2.2 = 4 → (firstM c s w).2.1 = []) ∧
  ((firstM c s w).2.2.2 ≠ 0 → (firstM c s w).2.2.2 ≠ 4 → ∃ n : Nat, (toldM c s w).1 = (n : Int) ∧ n ≤ (w ++ s).length ∧ (firstM c s w).2.1 = (w ++ s).drop n)
 | [], w => by
  rw [firstM, toldM]
  exact ⟨rfl, rfl, fun _ => ⟨rfl, by rw [List.append_nil], fun k h1 h2 => by simp at h2; omega⟩, (fun h => by cases h), fun h => absurd rfl h⟩
 | b :: s, w => by
  rw [firstM, toldM]
  by_cases hd : (qW (w ++ [b])).in_.Dead = 0
  ·rw [if_pos hd, if_pos hd]
   by_cases ho : (qW (w ++ [b])).out = []
   ·rw [if_pos ho, if_pos ho]
    obtain ⟨h1, h2, h3, h4, h5⟩ := first_told c s (w ++ [b])
    have e : w ++ [b] ++ s = w ++ b :: s := by simp
    rw [e] at h3 h5
    refine ⟨h1, h2, fun h => ?_, h4, h5⟩
    obtain ⟨g1, g2, g3⟩ := h3 h
    refine ⟨g1, g2, fun k hk1 hk2 => ?_⟩
    by_cases k1 : k = 1
    ·subst k1; exact ⟨hd, ho⟩
    ·have := g3 (k - 1) (by omega) (by simp at hk2; omega)
     obtain ⟨m, rfl⟩ : ∃ m, k = m + 1 := ⟨k - 1, by omega⟩
     simpa using this
   ·rw [if_neg ho, if_neg ho]
    have hv := verd_v c (ix (qW (w ++ [b])).out 0).Args
    refine ⟨rfl, rfl, fun h => absurd h hv.1, fun h => absurd h hv.2, fun _ _ => ⟨w.length + 1, rfl, by simp, ?_⟩⟩
    rw [show w ++ b :: s = (w ++ [b]) ++ s by simp, show w.length + 1 = (w ++ [b]).length by simp, List.drop_left]
  ·rw [if_neg hd, if_neg hd]
   exact ⟨rfl, rfl, (fun h => by cases h), fun _ => rfl, fun _ h => absurd rfl h⟩

noncomputable def labelM (c : api.Config) : List (List UInt8) → List UInt8 → Int
 | [], _ => -1
 | s :: ps, w => if (firstM c s w).2.2.2 = 0 then labelM c ps (w ++ s) else (firstM c s w).2.2.1

theorem quietAll_more {c : api.Config} {w s : List UInt8} (h : QuietAll w) (hv : (firstM c s w).2.2.2 = 0) : QuietAll (w ++ s) := by
 obtain ⟨_, _, g⟩ := (first_told c s w).2.2.1 hv
 intro k hk
 by_cases h1 : k ≤ w.length
 ·rw [List.take_append_of_le_length h1]; exact h k h1
 ·rw [List.take_append, List.take_of_length_le (by omega)]
  exact g (k - w.length) (by omega) (by simp at hk; omega)

theorem Label_go (c : api.Config) (hc : c.Tenants.length < 9223372036854775807) (pieces : List (List UInt8)) (hn : pieces.length ≤ 1000) : ∀ (rest pre : List (List UInt8)) (w : List UInt8), pieces = pre ++ rest → QuietAll w → w.length + lenS rest ≤ 1000000 →
  ((auth.Label.loop0 pieces c ⟨(pre.length : Int), (qW w).s, (qW w).in_.Args, (qW w).in_.Left, (qW w).in_.Size, (qW w).in_.Body, (qW w).in_.Need, (qW w).in_.Dead⟩).bind fun s96 => onSum s96 (fun s72 =>
  some (-1)) fun s96x => some s96x) = some (labelM c rest w) := by
 intro rest
 induction rest with
 | nil =>
  intro pre w e hq hl
  rw [List.append_nil] at e
  have hloop : auth.Label.loop0 pieces c ⟨(pre.length : Int), (qW w).s, (qW w).in_.Args, (qW w).in_.Left, (qW w).in_.Size, (qW w).in_.Body, (qW w).in_.Need, (qW w).in_.Dead⟩ = some (.inl ()) := by
   unfold auth.Label.loop0
   apply whileO_end
   unfold auth.Label.body0
   simp only
   rw [if_neg (by rw [e]; omega)]
  rw [hloop]
  rfl
 | cons s rest ih =>
  intro pre w e hq hl
  simp only [lenS] at hl
  have hlen : pieces.length = pre.length + (rest.length + 1) := by rw [e]; simp
  have hx : ix pieces (pre.length : Int) = s := by rw [ix_get (by omega)]; simp [e]
  have hbody : auth.Label.body0 pieces c ⟨(pre.length : Int), (qW w).s, (qW w).in_.Args, (qW w).in_.Left, (qW w).in_.Size, (qW w).in_.Body, (qW w).in_.Need, (qW w).in_.Dead⟩ =
    if (firstM c s w).2.2.2 = 0 then some (.inl ⟨((pre ++ [s]).length : Int), (firstM c s w).1.Rest, (firstM c s w).1.Args, (firstM c s w).1.Left, (firstM c s w).1.Size, (firstM c s w).1.Body, (firstM c s w).1.Need, (firstM c s w).1.Dead⟩)
    else some (.inr (.inr (firstM c s w).2.2.1)) := by
   unfold auth.Label.body0
   simp only
   rw [if_pos (by omega), need_eq ⟨by omega, by omega⟩, hx]
   show (auth.First c (inOf (qW w)) s).bind _ = _
   rw [First_eq c hc s w (by omega) hq.self]
   simp only [Option.bind_some]
   rw [i64w (by omega) (by omega)]
   simp only [List.length_append, List.length_singleton]
   rfl
  rw [labelM]
  by_cases hv : (firstM c s w).2.2.2 = 0
  ·rw [if_pos hv] at hbody ⊢
   obtain ⟨g1, g2, g3⟩ := (first_told c s w).2.2.1 hv
   rw [g2] at hbody
   have := ih (pre ++ [s]) (w ++ s) (by rw [e]; simp) (quietAll_more hq hv) (by simp; omega)
   rw [← this]
   cases hq2 : auth.Label.loop0 pieces c ⟨((pre ++ [s]).length : Int), (qW (w ++ s)).s, (qW (w ++ s)).in_.Args, (qW (w ++ s)).in_.Left, (qW (w ++ s)).in_.Size, (qW (w ++ s)).in_.Body, (qW (w ++ s)).in_.Need, (qW (w ++ s)).in_.Dead⟩ with
   | none => rw [hq2] at this; cases this
   | some q =>
    unfold auth.Label.loop0 at hq2 ⊢
    rw [whileO_next hbody hq2]
  ·rw [if_neg hv] at hbody ⊢
   unfold auth.Label.loop0
   rw [whileO_end hbody]
   rfl

theorem qW_nil : qW [] = startP emptyIn [] L16 := run_empty L16

theorem Label_eq (c : api.Config) (hc : c.Tenants.length < 9223372036854775807) (pieces : List (List UInt8)) (hn : pieces.length ≤ 1000) (hl : lenS pieces ≤ 1000000) : auth.Label c pieces = some (labelM c pieces []) := by
 have := Label_go c hc pieces hn pieces [] [] rfl quietAll_nil (by simpa using hl)
 rw [qW_nil] at this
 exact this

end Go.Pu
