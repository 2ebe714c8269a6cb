import Derived.Test.YtakmcdnailmhlaaGreatLiftT
import Derived.Test.YtakmcdnailmhlaaGreatPSP
namespace Go.Pu
open Go.Lift

/-! ### Numbers -/
theorem i64w {n : Int} (h0 : -9223372036854775808 ≤ n) (h1 : n < 9223372036854775808) : IntKind.wrap .i64 n = n := by
 rw [IntKind.wrap_i64]; omega
theorem u8w {n : Int} (h0 : 0 ≤ n) (h1 : n < 256) : IntKind.wrap .u8 n = n := by
 simp [IntKind.wrap, IntKind.bits, IntKind.signed]; omega
theorem wfi64 {n : Int} (h : (Lit.int .i64 n).wf = true) : -9223372036854775808 ≤ n ∧ n < 9223372036854775808 := by
 have : -9223372036854775808 ≤ n ∧ n ≤ 9223372036854775807 := by simpa [Lit.wf, IntKind.min, IntKind.max, IntKind.signed, IntKind.bits] using h
 omega
/-! ### Lists by places -/
theorem ix_get {α : Type} [Inhabited α] {xs : List α} {i : Nat} (h : i < xs.length) : ix xs (i : Int) = xs[i] := by
 simp [ix, List.getD, List.getElem?_eq_getElem h]
theorem bix_get' {s : List UInt8} {i : Nat} (hi : i < s.length) : bix s (i : Int) = (s[i].toNat : Int) := by
 simp [bix, List.getD, List.getElem?_eq_getElem hi]
theorem sub_zero {α : Type} (xs : List α) (n : Int) : sub xs 0 n = xs.take n.toNat := by simp [sub]
theorem sub_all {α : Type} (xs : List α) (n : Int) : sub xs n (xs.length : Int) = xs.drop n.toNat := by simp [sub]
theorem sub_nat {α : Type} (xs : List α) (a b : Nat) : sub xs (a : Int) (b : Int) = (xs.take b).drop a := rfl
theorem sub_one {α : Type} [Inhabited α] {xs : List α} {i : Nat} (h : i < xs.length) : sub xs (i : Int) ((i : Int) + 1) = [xs[i]] := by
 have e : ((i : Int) + 1).toNat = i + 1 := by omega
 simp only [sub, e, Int.toNat_natCast]
 rw [List.take_add_one, List.drop_append, List.getElem?_eq_getElem h]
 simp [List.length_take, Nat.min_eq_left (Nat.le_of_lt h)]

/-! ### Loops -/
theorem whileO_to {σ ρ : Type} {body : σ → Option (σ ⊕ ρ)} (st : Nat → σ) (n : Nat) (j : Nat) (hj : j ≤ n) {r : ρ} (h : ∀ i, j ≤ i → i < n → body (st i) = some (.inl (st (i + 1)))) (he : whileO body (st n) = some r) : whileO body (st j) = some r := by
 have : ∀ k, k ≤ n - j → whileO body (st (n - k)) = some r := by
  intro k
  induction k with
  | zero => intro _; exact he
  | succ k ih =>
   intro hk
   refine whileO_next (h (n - (k + 1)) (by omega) (by omega)) ?_
   rw [show n - (k + 1) + 1 = n - k by omega]
   exact ih (by omega)
 have := this (n - j) (Nat.le_refl _)
 rwa [show n - (n - j) = j by omega] at this

theorem whileO_known {σ ρ : Type} {body : σ → Option (σ ⊕ ρ)} (st : Nat → σ) (n : Nat) {r : ρ} (h : ∀ i, i < n → body (st i) = some (.inl (st (i + 1)))) (he : body (st n) = some (.inr r)) : whileO body (st 0) = some r :=
 whileO_to st n 0 (Nat.zero_le _) (fun i _ hi => h i hi) (whileO_end he)

open Classical in
/-- The place of the first one. -/
def idxF {α : Type} (p : α → Bool) : List α → Nat → Option Nat
 | [], _ => none
 | x :: xs, j => if p x then some j else idxF p xs (j + 1)

theorem whileO_idx {σ ρ α : Type} [Inhabited α] {body : σ → Option (σ ⊕ ρ)} (st : Nat → σ) (xs : List α) (p : α → Bool) (found : Nat → ρ) (z : ρ)
  (h : ∀ i (hi : i < xs.length), body (st i) = some (if p xs[i] = true then .inr (found i) else .inl (st (i + 1)))) (he : body (st xs.length) = some (.inr z)) :
  ∀ (m j : Nat), j + m = xs.length → whileO body (st j) = some (match idxF p (xs.drop j) j with | some i => found i | none => z)
 | 0, j, e => by
  obtain rfl : j = xs.length := by omega
  rw [List.drop_length]
  exact whileO_end he
 | m + 1, j, e => by
  have hj : j < xs.length := by omega
  have hb := h j hj
  rw [List.drop_eq_getElem_cons hj]
  simp only [idxF]
  by_cases hp : p xs[j] = true
  ·rw [if_pos hp] at hb ⊢
   exact whileO_end hb
  ·rw [if_neg hp] at hb ⊢
   exact whileO_next hb (whileO_idx st xs p found z h he m (j + 1) (by omega))

theorem idxF_some {α : Type} {p : α → Bool} : ∀ {xs : List α} {j i : Nat}, idxF p xs j = some i → j ≤ i ∧ i < j + xs.length ∧ (∃ h : i - j < xs.length, p xs[i - j] = true)
 | x :: xs, j, i, h => by
  simp only [idxF] at h
  by_cases hp : p x = true
  ·rw [if_pos hp] at h
   obtain rfl := Option.some.inj h
   refine ⟨Nat.le_refl _, by simp, ?_⟩
   simp [hp]
  ·rw [if_neg hp] at h
   obtain ⟨h1, h2, h3, h4⟩ := idxF_some h
   refine ⟨by omega, by simp; omega, ?_⟩
   have e : i - j = (i - (j + 1)) + 1 := by omega
   refine ⟨by simp; omega, ?_⟩
   simp only [e, List.getElem_cons_succ]
   exact h4

theorem idxF_isSome {α : Type} {p : α → Bool} : ∀ {xs : List α} {j : Nat}, (idxF p xs j).isSome = xs.any p
 | [], _ => rfl
 | x :: xs, j => by
  simp only [idxF, List.any_cons]
  by_cases hp : p x = true
  ·simp [hp]
  ·simp [hp, idxF_isSome (xs := xs) (j := j + 1)]

open Classical in
theorem whileO_idxE {σ ρ α : Type} [Inhabited α] {body : σ → Option (σ ⊕ ρ)} (s0 : σ) (st : Nat → σ) (xs : List α) (p : α → Bool) (found : Nat → ρ) (z : ρ)
  (h : ∀ i (hi : i < xs.length), body (st i) = some (if p xs[i] = true then .inr (found i) else .inl (st (i + 1)))) (he : body (st xs.length) = some (.inr z)) (h0 : s0 = st 0 := by rfl) :
  whileO body s0 = some (match idxF p xs 0 with | some i => found i | none => z) := by
 have := whileO_idx st xs p found z h he xs.length 0 (by omega)
 subst h0
 rw [this, List.drop_zero]
theorem whileO_knownE {σ ρ : Type} {body : σ → Option (σ ⊕ ρ)} (s0 : σ) (st : Nat → σ) (n : Nat) {r : ρ} (h : ∀ i, i < n → body (st i) = some (.inl (st (i + 1)))) (he : body (st n) = some (.inr r)) (h0 : s0 = st 0 := by rfl) : whileO body s0 = some r :=
 h0 ▸ whileO_known st n h he

/-- Is there one among them? -/
theorem whileO_anyL {σ ρ α : Type} [Inhabited α] {body : σ → Option (σ ⊕ ρ)} (s0 : σ) (st : Nat → σ) (xs : List α) (p : α → Bool) (a z : ρ)
  (h : ∀ i (hi : i < xs.length), body (st i) = some (if p xs[i] = true then .inr a else .inl (st (i + 1)))) (he : body (st xs.length) = some (.inr z)) (h0 : s0 = st 0 := by rfl) :
  whileO body s0 = some (if xs.any p = true then a else z) := by
 rw [whileO_idxE s0 st xs p (fun _ => a) z h he h0, ← idxF_isSome (p := p) (j := 0)]
 cases idxF p xs 0 <;> rfl

/-- A loop with something that gets less. -/
theorem whileO_dec {σ ρ : Type} {body : σ → Option (σ ⊕ ρ)} (st : σ → Prop) (μ : σ → Nat) (Q : ρ → Prop)
  (h : ∀ s, st s → (∃ s', body s = some (.inl s') ∧ st s' ∧ μ s' < μ s) ∨ (∃ r, body s = some (.inr r) ∧ Q r)) (s : σ) (h0 : st s) : ∃ r, whileO body s = some r ∧ Q r := by
 have : ∀ n s, μ s ≤ n → st s → ∃ r, whileO body s = some r ∧ Q r := by
  intro n
  induction n with
  | zero =>
   intro s hn hs
   rcases h s hs with ⟨s', _, _, h3⟩ | ⟨r, h1, h2⟩
   ·omega
   ·exact ⟨r, whileO_end h1, h2⟩
  | succ n ih =>
   intro s hn hs
   rcases h s hs with ⟨s', h1, h2, h3⟩ | ⟨r, h1, h2⟩
   ·obtain ⟨r, h4, h5⟩ := ih s' (by omega) h2
    exact ⟨r, whileO_next h1 h4, h5⟩
   ·exact ⟨r, whileO_end h1, h2⟩
 exact this (μ s) s (Nat.le_refl _) h0

end Go.Pu

set_option maxRecDepth 100000
namespace Go.Pu
open Go.Lift

def blankB (c : UInt8) : Bool := decide (c = 32) || decide (c = 9)
def hexN (c : UInt8) : Option Nat :=
 if 48 ≤ c.toNat ∧ c.toNat ≤ 57 then some (c.toNat - 48) else if 97 ≤ c.toNat ∧ c.toNat ≤ 102 then some (c.toNat - 87) else if 65 ≤ c.toNat ∧ c.toNat ≤ 70 then some (c.toNat - 55) else none
def trn (c : UInt8) : UInt8 := if c = 110 then 10 else if c = 114 then 13 else if c = 116 then 9 else if c = 98 then 8 else if c = 97 then 7 else c

theorem fin_byte {p : UInt8 → Prop} (h : ∀ n : Fin 256, p (UInt8.ofNat n.val)) (c : UInt8) : p c := by
 have := h ⟨c.toNat, c.toNat_lt⟩
 simpa using this

theorem hexN_lt {c : UInt8} {n : Nat} (h : hexN c = some n) : n < 16 := by
 unfold hexN at h
 split at h
 ·injection h; omega
 ·split at h
  ·injection h; omega
  ·split at h
   ·injection h; omega
   ·cases h

theorem blank_eq (c : UInt8) : line.blank (c.toNat : Int) = some (blankB c) := by
 revert c; apply fin_byte; decide +kernel
theorem hex_eq (c : UInt8) : line.hex (c.toNat : Int) = some (match hexN c with | some n => (n : Int) | none => -1) := by
 revert c; apply fin_byte; decide +kernel

theorem digit_eq (c : UInt8) : mewsref04.digit (c.toNat : Int) = some (match hexN c with | some n => (n : Int) | none => 16) := by
 have h : ∀ c : UInt8, iterO (mewsref04.digit.body0 (c.toNat : Int)) 20 ⟨0⟩ = some (match hexN c with | some n => .inr (n : Int) | none => .inl ()) := by
  intro c; revert c; apply fin_byte; decide +kernel
 unfold mewsref04.digit mewsref04.digit.loop0
 rw [whileO_iff.2 ⟨20, h c⟩]
 cases hexN c <;> rfl
theorem turned_eq (c : UInt8) : mewsref04.turned (c.toNat : Int) = some ((trn c).toNat : Int) := by
 have h : ∀ c : UInt8, (iterO (mewsref04.turned.body0 (c.toNat : Int)) 20 ⟨0⟩).bind (fun s80 => onSum s80 (fun s59 => some (c.toNat : Int)) fun s80x => some s80x) = some ((trn c).toNat : Int) := by
  intro c; revert c; apply fin_byte; decide +kernel
 unfold mewsref04.turned mewsref04.turned.loop0
 cases hi : iterO (mewsref04.turned.body0 (c.toNat : Int)) 20 ⟨0⟩ with
 | none => have := h c; rw [hi] at this; simp at this
 | some r => rw [whileO_iff.2 ⟨20, hi⟩]; have := h c; rw [hi] at this; exact this

/-! ### What is left -/
def Sfx (s t : List UInt8) : Prop := ∃ pre, s = pre ++ t
def ps (s t : List UInt8) : Nat := s.length - t.length
theorem Sfx.refl (s : List UInt8) : Sfx s s := ⟨[], rfl⟩
theorem Sfx.trans {a b c : List UInt8} (h : Sfx a b) (h2 : Sfx b c) : Sfx a c := by
 obtain ⟨p, rfl⟩ := h; obtain ⟨q, rfl⟩ := h2; exact ⟨p ++ q, by simp⟩
theorem Sfx.tail {s t : List UInt8} {c : UInt8} (h : Sfx s (c :: t)) : Sfx s t := by
 obtain ⟨p, rfl⟩ := h; exact ⟨p ++ [c], by simp⟩
theorem Sfx.len {s t : List UInt8} (h : Sfx s t) : t.length ≤ s.length := by
 obtain ⟨p, rfl⟩ := h; simp
theorem sfx_drop (t : List UInt8) (n : Nat) : Sfx t (t.drop n) := ⟨t.take n, (List.take_append_drop n t).symm⟩
theorem sfx_dropWhile (t : List UInt8) (p : UInt8 → Bool) : Sfx t (t.dropWhile p) := ⟨t.takeWhile p, List.takeWhile_append_dropWhile.symm⟩
theorem Sfx.ps_cons {s t : List UInt8} {c : UInt8} (h : Sfx s (c :: t)) : ps s t = ps s (c :: t) + 1 ∧ ps s (c :: t) < s.length := by
 have := h.len; unfold ps; simp at this ⊢; omega
theorem Sfx.bix {s t : List UInt8} {c : UInt8} (h : Sfx s (c :: t)) : bix s (ps s (c :: t) : Int) = (c.toNat : Int) := by
 obtain ⟨p, rfl⟩ := h
 have : ps (p ++ c :: t) (c :: t) = p.length := by unfold ps; simp
 rw [this, bix_get' (by simp)]; simp
theorem ps_nil (s : List UInt8) : ps s [] = s.length := by simp [ps]
theorem ps_self (s : List UInt8) : ps s s = 0 := by simp [ps]

/-! ### The model -/
def hexPair (c : UInt8) : List UInt8 → Option (UInt8 × List UInt8)
 | d1 :: d2 :: t => if c = 120 then (match hexN d1, hexN d2 with | some a, some b => some (UInt8.ofNat (16 * a + b), t) | _, _ => none) else none
 | _ => none
def turnM : List UInt8 → UInt8 × List UInt8
 | [] => (0, [])
 | c :: t => match hexPair c t with
  | some r => r
  | none => (trn c, t)
theorem hexPair_some {c : UInt8} {t t' : List UInt8} {v : UInt8} (h : hexPair c t = some (v, t')) : ∃ d1 d2 a b, t = d1 :: d2 :: t' ∧ c = 120 ∧ hexN d1 = some a ∧ hexN d2 = some b ∧ v = UInt8.ofNat (16 * a + b) := by
 match t, h with
 | d1 :: d2 :: t, h =>
  simp only [hexPair] at h
  by_cases hc : c = 120
  ·rw [if_pos hc] at h
   cases h1 : hexN d1 with
   | none => rw [h1] at h; simp at h
   | some a =>
    cases h2 : hexN d2 with
    | none => rw [h1, h2] at h; simp at h
    | some b =>
     rw [h1, h2] at h
     simp only [Option.some.injEq, Prod.mk.injEq] at h
     exact ⟨d1, d2, a, b, by rw [h.2], hc, h1, h2, h.1.symm⟩
  ·rw [if_neg hc] at h; cases h
theorem turnM_plain {c : UInt8} {t : List UInt8} (h : hexPair c t = none) : turnM (c :: t) = (trn c, t) := by
 show (match hexPair c t with | some r => r | none => (trn c, t)) = _
 rw [h]
theorem turnM_hex {c : UInt8} {t : List UInt8} {r : UInt8 × List UInt8} (h : hexPair c t = some r) : turnM (c :: t) = r := by
 show (match hexPair c t with | some r => r | none => (trn c, t)) = _
 rw [h]
theorem turnM_sfx {t : List UInt8} : Sfx t (turnM t).2 ∧ (turnM t).2.length ≤ t.length ∧ (t ≠ [] → (turnM t).2.length < t.length) := by
 cases t with
 | nil => exact ⟨Sfx.refl _, Nat.le_refl _, fun h => absurd rfl h⟩
 | cons c t =>
  cases h : hexPair c t with
  | none => rw [turnM_plain h]; exact ⟨(Sfx.refl _).tail, by simp, by simp⟩
  | some r =>
   rw [turnM_hex h]
   obtain ⟨v, t'⟩ := r
   obtain ⟨d1, d2, _, _, rfl, _⟩ := hexPair_some h
   exact ⟨(Sfx.refl _).tail.tail.tail, by simp; omega, by simp; omega⟩

def endsB : List UInt8 → Bool
 | [] => true
 | d :: _ => blankB d

def qM (mark : UInt8) (t b : List UInt8) : Option (List UInt8 × List UInt8) :=
 match t with
 | [] => none
 | c :: t =>
  if c = mark then (if endsB t = true then some (b, t) else none)
  else if c = 92 ∧ mark = 34 ∧ t ≠ [] then qM mark (turnM t).2 (b ++ [(turnM t).1])
  else if c = 92 ∧ mark = 39 ∧ t.head? = some 39 then qM mark (t.drop 1) (b ++ [39])
  else qM mark t (b ++ [c])
termination_by t.length
decreasing_by
 ·have := (turnM_sfx (t := t)).2.1; simp; omega
 ·simp; omega
 ·simp

theorem qM_nil (mark : UInt8) (b : List UInt8) : qM mark [] b = none := by rw [qM]
theorem qM_cons (mark c : UInt8) (t b : List UInt8) : qM mark (c :: t) b =
  if c = mark then (if endsB t = true then some (b, t) else none)
  else if c = 92 ∧ mark = 34 ∧ t ≠ [] then qM mark (turnM t).2 (b ++ [(turnM t).1])
  else if c = 92 ∧ mark = 39 ∧ t.head? = some 39 then qM mark (t.drop 1) (b ++ [39])
  else qM mark t (b ++ [c]) := by rw [qM]

/-- What is told of what stands between quotes. -/
theorem qM_some {mark : UInt8} : ∀ {n : Nat} {t b b' t' : List UInt8}, t.length ≤ n → qM mark t b = some (b', t') → Sfx t t' ∧ t'.length < t.length ∧ endsB t' = true ∧ b'.length + t'.length ≤ b.length + t.length
 | n, [], b, b', t', _, h => by rw [qM_nil] at h; cases h
 | 0, c :: t, b, b', t', hn, h => by simp at hn
 | n + 1, c :: t, b, b', t', hn, h => by
  rw [qM_cons] at h
  simp only [List.length_cons] at hn
  by_cases h1 : c = mark
  ·rw [if_pos h1] at h
   by_cases h2 : endsB t = true
   ·rw [if_pos h2] at h
    simp only [Option.some.injEq, Prod.mk.injEq] at h
    obtain ⟨rfl, rfl⟩ := h
    exact ⟨(Sfx.refl _).tail, by simp, h2, by simp⟩
   ·rw [if_neg h2] at h; cases h
  ·rw [if_neg h1] at h
   by_cases h2 : c = 92 ∧ mark = 34 ∧ t ≠ []
   ·rw [if_pos h2] at h
    obtain ⟨g1, g2, g3⟩ := turnM_sfx (t := t)
    have g3 := g3 h2.2.2
    obtain ⟨q1, q2, q3, q4⟩ := qM_some (n := n) (by omega) h
    exact ⟨((Sfx.refl _).tail.trans g1).trans q1, by simp; omega, q3, by simp at q4 ⊢; omega⟩
   ·rw [if_neg h2] at h
    by_cases h3 : c = 92 ∧ mark = 39 ∧ t.head? = some 39
    ·rw [if_pos h3] at h
     have hne : t ≠ [] := by intro e; rw [e] at h3; simp at h3
     have hlen : (t.drop 1).length + 1 = t.length := by
      cases t with
      | nil => exact absurd rfl hne
      | cons d t => simp
     obtain ⟨q1, q2, q3, q4⟩ := qM_some (n := n) (by omega) h
     exact ⟨((Sfx.refl _).tail.trans (sfx_drop t 1)).trans q1, by simp; omega, q3, by simp at q4 ⊢; omega⟩
    ·rw [if_neg h3] at h
     obtain ⟨q1, q2, q3, q4⟩ := qM_some (n := n) (by omega) h
     exact ⟨(Sfx.refl _).tail.trans q1, by simp; omega, q3, by simp at q4 ⊢; omega⟩

def argM (t b : List UInt8) : Option (List UInt8 × List UInt8) :=
 match t with
 | [] => some (b, [])
 | c :: t =>
  if blankB c = true then some (b, c :: t)
  else if c ≠ 34 ∧ c ≠ 39 then argM t (b ++ [c])
  else match h : qM c t [] with
   | none => none
   | some r => argM r.2 (b ++ r.1)
termination_by t.length
decreasing_by
 ·simp
 ·have := (qM_some (n := t.length) (Nat.le_refl _) (b' := r.1) (t' := r.2) h).2.1; simp; omega

theorem argM_nil (b : List UInt8) : argM [] b = some (b, []) := by rw [argM]
theorem argM_blank {c : UInt8} {t b : List UInt8} (h : blankB c = true) : argM (c :: t) b = some (b, c :: t) := by rw [argM, if_pos h]
theorem argM_plain {c : UInt8} {t b : List UInt8} (h : ¬ blankB c = true) (h2 : c ≠ 34 ∧ c ≠ 39) : argM (c :: t) b = argM t (b ++ [c]) := by rw [argM, if_neg h, if_pos h2]
theorem argM_bad {c : UInt8} {t b : List UInt8} (h : ¬ blankB c = true) (h2 : ¬ (c ≠ 34 ∧ c ≠ 39)) (h3 : qM c t [] = none) : argM (c :: t) b = none := by
 rw [argM, if_neg h, if_neg h2]
 split
 ·rfl
 ·rename_i r hr; rw [h3] at hr; cases hr
theorem argM_quote {c : UInt8} {t b x t' : List UInt8} (h : ¬ blankB c = true) (h2 : ¬ (c ≠ 34 ∧ c ≠ 39)) (h3 : qM c t [] = some (x, t')) : argM (c :: t) b = argM t' (b ++ x) := by
 rw [argM, if_neg h, if_neg h2]
 split
 ·rename_i hr; rw [h3] at hr; cases hr
 ·rename_i r hr
  rw [h3] at hr
  obtain rfl := Option.some.inj hr
  rfl

theorem argM_some : ∀ {n : Nat} {t b b' t' : List UInt8}, t.length ≤ n → argM t b = some (b', t') → Sfx t t' ∧ endsB t' = true ∧ b'.length + t'.length ≤ b.length + t.length ∧ (endsB t = true ∨ t'.length < t.length)
 | n, [], b, b', t', _, h => by
  rw [argM_nil] at h
  simp only [Option.some.injEq, Prod.mk.injEq] at h
  obtain ⟨rfl, rfl⟩ := h
  exact ⟨Sfx.refl _, rfl, Nat.le_refl _, .inl rfl⟩
 | 0, c :: t, b, b', t', hn, h => by simp at hn
 | n + 1, c :: t, b, b', t', hn, h => by
  simp only [List.length_cons] at hn
  by_cases h1 : blankB c = true
  ·rw [argM_blank h1] at h
   simp only [Option.some.injEq, Prod.mk.injEq] at h
   obtain ⟨rfl, rfl⟩ := h
   exact ⟨Sfx.refl _, h1, Nat.le_refl _, .inl h1⟩
  ·by_cases h2 : c ≠ 34 ∧ c ≠ 39
   ·rw [argM_plain h1 h2] at h
    obtain ⟨q1, q2, q3, q4⟩ := argM_some (n := n) (by omega) h
    have := q1.len
    exact ⟨(Sfx.refl _).tail.trans q1, q2, by simp at q3 ⊢; omega, .inr (by simp; omega)⟩
   ·cases h3 : qM c t [] with
    | none => rw [argM_bad h1 h2 h3] at h; cases h
    | some r =>
     obtain ⟨x, u⟩ := r
     rw [argM_quote h1 h2 h3] at h
     obtain ⟨g1, g2, g3, g4⟩ := qM_some (n := t.length) (Nat.le_refl _) h3
     obtain ⟨q1, q2, q3, q4⟩ := argM_some (n := n) (by omega) h
     have := q1.len
     exact ⟨((Sfx.refl _).tail.trans g1).trans q1, q2, by simp at q3 g4 ⊢; omega, .inr (by simp; omega)⟩

theorem dropWhile_head {t u : List UInt8} {c : UInt8} (h : t.dropWhile blankB = c :: u) : ¬ blankB c = true := by
 induction t with
 | nil => simp at h
 | cons d t ih =>
  rw [List.dropWhile_cons] at h
  by_cases hd : blankB d = true
  ·rw [if_pos hd] at h; exact ih h
  ·rw [if_neg hd] at h
   simp only [List.cons.injEq] at h
   rw [← h.1]; exact hd

def splitM (t : List UInt8) (out : List (List UInt8)) : Option (List (List UInt8)) :=
 match h : t.dropWhile blankB with
 | [] => some out
 | c :: u => match h2 : argM (c :: u) [] with
  | none => none
  | some r => splitM r.2 (out ++ [r.1])
termination_by t.length
decreasing_by
 have h3 := argM_some (n := (c :: u).length) (Nat.le_refl _) (b' := r.1) (t' := r.2) h2
 have h4 := dropWhile_head h
 have h5 := (sfx_dropWhile t blankB).len
 rw [h] at h5
 rcases h3.2.2.2 with h6 | h6
 ·exact absurd h6 h4
 ·omega

theorem splitM_end {t : List UInt8} {out : List (List UInt8)} (h : t.dropWhile blankB = []) : splitM t out = some out := by
 rw [splitM]; split
 ·rfl
 ·rename_i c u hh; rw [h] at hh; cases hh
theorem splitM_bad {t u : List UInt8} {c : UInt8} {out : List (List UInt8)} (h : t.dropWhile blankB = c :: u) (h2 : argM (c :: u) [] = none) : splitM t out = none := by
 rw [splitM]; split
 ·rename_i hh; rw [h] at hh; cases hh
 ·rename_i c' u' hh
  rw [h] at hh
  simp only [List.cons.injEq] at hh
  obtain ⟨rfl, rfl⟩ := hh
  split
  ·rfl
  ·rename_i r hr; rw [h2] at hr; cases hr
theorem splitM_next {t u b t' : List UInt8} {c : UInt8} {out : List (List UInt8)} (h : t.dropWhile blankB = c :: u) (h2 : argM (c :: u) [] = some (b, t')) : splitM t out = splitM t' (out ++ [b]) := by
 rw [splitM]; split
 ·rename_i hh; rw [h] at hh; cases hh
 ·rename_i c' u' hh
  rw [h] at hh
  simp only [List.cons.injEq] at hh
  obtain ⟨rfl, rfl⟩ := hh
  split
  ·rename_i hr; rw [h2] at hr; cases hr
  ·rename_i r hr
   rw [h2] at hr
   obtain rfl := Option.some.inj hr
   rfl

end Go.Pu
