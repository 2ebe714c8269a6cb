/- The pure law AuthRight. -/
import Derived.Test.YtfapgollkabopaaAOPuBase
import Derived.Test.YtfapgollkabopaaAOC
set_option maxRecDepth 100000
namespace Go.Pu
open Go.Lift

theorem alive42 : mewslaw42.alive = some true := mewslaw42.alive.c_le 100 true (by decide +kernel)

def inB (n low high : Int) : Bool := decide (low ≤ n) && decide (n ≤ high)
def mayB (t : api.Tenant) : Bool :=
 inB t.Name.length 1 64 && inB t.Token.length 1 64 && inB t.Memory 0 524288 && inB t.Policy 0 5 && inB t.Conns 1 64 && inB t.In 64 1048576 && inB t.Out 64 4194304 &&
 inB t.Burst 1 1073741824 && inB t.Rate 0 1048576 && inB t.Disk 0 67108864 && inB t.Sync 1 3 && inB t.Limits.Args 1 65536 && inB t.Limits.Bulk 1 1048576 && inB t.Limits.Line 1 65536

theorem may_1_eq (n l h : Int) (b : Bool) : auth.may_1 n l h b = some (b && inB n l h) := by
 unfold auth.may_1 inB
 cases b with
 | false => rfl
 | true => by_cases h1 : l ≤ n <;> simp [h1]

theorem may_eq (t : api.Tenant) : auth.may t = some (mayB t) := by
 unfold auth.may mayB
 simp only [may_1_eq, Option.bind_some, Bool.true_and]

theorem in_eq (n l h : Int) : mewsref42.in_ n l h = some (inB n l h) := by
 unfold mewsref42.in_ inB letO
 by_cases h1 : l ≤ n <;> simp [h1]

theorem ite_some_false {c : Prop} [Decidable c] {b : Bool} : (if c then some b else some false) = some (decide c && b) := by by_cases h : c <;> simp [h]

theorem rMay_eq (t : api.Tenant) : mewsref42.May t = some (mayB t) := by
 unfold mewsref42.May mayB
 simp only [in_eq, Option.bind_some, ite_some_false, Bool.decide_eq_true]
 congr 1
 generalize inB (↑t.Name.length) 1 64 = b1
 generalize inB (↑t.Token.length) 1 64 = b2
 generalize inB t.Memory 0 524288 = b3
 generalize inB t.Policy 0 5 = b4
 generalize inB t.Conns 1 64 = b5
 generalize inB t.In 64 1048576 = b6
 generalize inB t.Out 64 4194304 = b7
 generalize inB t.Burst 1 1073741824 = b8
 generalize inB t.Rate 0 1048576 = b9
 generalize inB t.Disk 0 67108864 = b10
 generalize inB t.Sync 1 3 = b11
 generalize inB t.Limits.Args 1 65536 = b12
 generalize inB t.Limits.Bulk 1 1048576 = b13
 generalize inB t.Limits.Line 1 65536 = b14
 cases b1 <;> cases b2 <;> cases b3 <;> simp
 cases b4 <;> cases b5 <;> cases b6 <;> simp
 cases b7 <;> cases b8 <;> cases b9 <;> cases b10 <;> cases b11 <;> simp [Bool.and_assoc]

/-! ### The first one of which it holds -/
theorem Find1_eq (s : List api.Tenant) (token : List UInt8) (hs : s.length < 9223372036854775807) :
  slices.IndexFunc_api_Tenant_auth_Find_1 s token = some (match idxF (fun t : api.Tenant => decide (t.Token = token)) s 0 with | some i => (i : Int) | none => -1) := by
 unfold slices.IndexFunc_api_Tenant_auth_Find_1 slices.IndexFunc_api_Tenant_auth_Find_1.loop0
 rw [whileO_idxE ⟨0⟩ (fun i => (⟨(i : Int)⟩ : slices.IndexFunc_api_Tenant_auth_Find_1.S0)) s (fun t : api.Tenant => decide (t.Token = token)) (fun i => .inr (i : Int)) (.inl ()) ?_ ?_]
 ·cases idxF (fun t : api.Tenant => decide (t.Token = token)) s 0 <;> rfl
 ·intro i hi
  unfold slices.IndexFunc_api_Tenant_auth_Find_1.body0 auth.Find_1
  simp only
  rw [if_pos (by omega), need_eq ⟨by omega, by omega⟩, ix_get hi, i64w (by omega) (by omega)]
  simp only [Option.bind_some, decide_eq_true_eq]
  split <;> simp
 ·unfold slices.IndexFunc_api_Tenant_auth_Find_1.body0
  simp

theorem rFind_eq (c : api.Config) (token : List UInt8) (hs : c.Tenants.length < 9223372036854775807) :
  mewsref42.Find c token = some (match idxF (fun t : api.Tenant => decide (t.Token = token)) c.Tenants 0 with | some i => (i : Int) | none => -1) := by
 unfold mewsref42.Find mewsref42.Find.loop0
 rw [whileO_idxE ⟨0⟩ (fun i => (⟨(i : Int)⟩ : mewsref42.Find.S0)) c.Tenants (fun t : api.Tenant => decide (t.Token = token)) (fun i => .inr (i : Int)) (.inl ()) ?_ ?_]
 ·cases idxF (fun t : api.Tenant => decide (t.Token = token)) c.Tenants 0 <;> rfl
 ·intro i hi
  unfold mewsref42.Find.body0
  simp only
  rw [if_pos (by omega), need_eq ⟨by omega, by omega⟩, ix_get hi, i64w (by omega) (by omega)]
  simp only [decide_eq_true_eq]
  split <;> simp
 ·unfold mewsref42.Find.body0
  simp

theorem Contains_eq (s : List api.Tenant) (hs : s.length < 9223372036854775807) : slices.ContainsFunc_api_Tenant_auth_Right_1 s = some (s.any fun t => !mayB t) := by
 unfold slices.ContainsFunc_api_Tenant_auth_Right_1 slices.IndexFunc_api_Tenant_auth_Right_1 slices.IndexFunc_api_Tenant_auth_Right_1.loop0
 rw [whileO_idxE ⟨0⟩ (fun i => (⟨(i : Int)⟩ : slices.IndexFunc_api_Tenant_auth_Right_1.S0)) s (fun t : api.Tenant => !mayB t) (fun i => .inr (i : Int)) (.inl ()) ?_ ?_]
 ·rw [← idxF_isSome (p := fun t : api.Tenant => !mayB t) (j := 0)]
  cases h : idxF (fun t : api.Tenant => !mayB t) s 0 with
  | none => simp [onSum]
  | some i => simp [onSum]
 ·intro i hi
  unfold slices.IndexFunc_api_Tenant_auth_Right_1.body0 auth.Right_1
  simp only
  rw [if_pos (by omega), need_eq ⟨by omega, by omega⟩, ix_get hi, i64w (by omega) (by omega)]
  simp only [may_eq, Option.bind_some]
  split <;> simp
 ·unfold slices.IndexFunc_api_Tenant_auth_Right_1.body0
  simp

/-! ### A configuration -/
def alike (a b : api.Tenant) : Prop := a.Name = b.Name ∨ a.Token = b.Token
def twins2 (l : List api.Tenant) (i j : Nat) : Prop := ∃ (hi : i < l.length) (hj : j < l.length), alike l[i] l[j]

open Classical in
noncomputable def rightN (c : api.Config) : Int :=
 if c.Tenants.length < 1 ∨ 16 < c.Tenants.length then 7
 else if (c.Tenants.any fun t => !mayB t) = true ∨ c.Quantum < 1 ∨ 1000 < c.Quantum ∨ c.Deadline < 1 ∨ 1099511627776 < c.Deadline then 1
 else if ∃ i j, j < i ∧ twins2 c.Tenants i j then 9 else 0

theorem alike_symm {a b : api.Tenant} (h : alike a b) : alike b a := h.elim (fun h => .inl h.symm) (fun h => .inr h.symm)

theorem Right2_eq (c : api.Config) (hs : c.Tenants.length < 9223372036854775807) (i : Nat) (hi : i < c.Tenants.length) [Decidable (∃ j, j < i ∧ twins2 c.Tenants i j)] :
  auth.Right.loop2 c ⟨(i : Int)⟩ ⟨0⟩ = some (if ∃ j, j < i ∧ twins2 c.Tenants i j then .inr (.inr (.inr 9)) else .inl ()) := by
 classical
 unfold auth.Right.loop2
 have hlen : (sub c.Tenants 0 (i : Int)).length = i := by rw [sub_zero]; simp; omega
 rw [whileO_anyE ⟨0⟩ (fun j => (⟨(j : Int)⟩ : auth.Right.S2)) i (fun j => twins2 c.Tenants i j) (.inr (.inr (.inr 9))) (.inl ()) ?_ ?_]
 ·congr 1
  by_cases h : ∃ j, j < i ∧ twins2 c.Tenants i j
  ·rw [if_pos h, if_pos h]
  ·rw [if_neg h, if_neg h]
 ·intro j hj
  have hj' : j < c.Tenants.length := by omega
  have e : ix (sub c.Tenants 0 (i : Int)) (j : Int) = c.Tenants[j] := by
   rw [ix_get (by rw [hlen]; exact hj)]
   simp [sub_zero]
  unfold auth.Right.body2
  simp only
  rw [hlen, if_pos (by omega), need_eq ⟨by omega, by omega⟩, e, ix_get hi, i64w (by omega) (by omega)]
  by_cases h : twins2 c.Tenants i j
  ·rw [if_pos h]
   obtain ⟨_, _, h1⟩ := h
   by_cases h2 : c.Tenants[i].Name = c.Tenants[j].Name
   ·simp [letO, h2]
   ·have h3 := h1.resolve_left h2
    simp [letO, h2, h3]
  ·rw [if_neg h]
   have h2 : ¬ c.Tenants[i].Name = c.Tenants[j].Name := fun h2 => h ⟨hi, hj', .inl h2⟩
   have h3 : ¬ c.Tenants[i].Token = c.Tenants[j].Token := fun h3 => h ⟨hi, hj', .inr h3⟩
   simp [letO, h2, h3]
 ·unfold auth.Right.body2
  simp [hlen]

theorem Right_eq (c : api.Config) (hs : c.Tenants.length < 9223372036854775807) : auth.Right c = some (rightN c) := by
 classical
 unfold auth.Right rightN
 rw [Contains_eq _ hs]
 have e1 : (if (c.Tenants.length : Int) < 1 then true else decide (16 < (c.Tenants.length : Int))) = decide (c.Tenants.length < 1 ∨ 16 < c.Tenants.length) := by
  by_cases h : (c.Tenants.length : Int) < 1
  ·rw [if_pos h]; symm; rw [decide_eq_true_eq]; left; omega
  ·rw [if_neg h]; apply decide_eq_decide.2; omega
 simp only [letO, e1, Option.bind_some, decide_eq_true_eq]
 by_cases h1 : c.Tenants.length < 1 ∨ 16 < c.Tenants.length
 ·rw [if_pos h1, if_pos h1]
 ·rw [if_neg h1, if_neg h1]
  have e2 : (if (c.Tenants.any fun t => !mayB t) = true then some true else if c.Quantum < 1 then some true else if 1000 < c.Quantum then some true else if c.Deadline < 1 then some true else some (decide (1099511627776 < c.Deadline))) =
    some (decide ((c.Tenants.any fun t => !mayB t) = true ∨ c.Quantum < 1 ∨ 1000 < c.Quantum ∨ c.Deadline < 1 ∨ 1099511627776 < c.Deadline)) := by
   by_cases a : (c.Tenants.any fun t => !mayB t) = true
   ·simp only [a, if_true, true_or, decide_true]
   ·rw [if_neg a]
    by_cases a2 : c.Quantum < 1
    ·simp [a2]
    ·rw [if_neg a2]
     by_cases a3 : 1000 < c.Quantum
     ·simp [a3]
     ·rw [if_neg a3]
      by_cases a4 : c.Deadline < 1
      ·simp [a4]
      ·rw [if_neg a4]
       congr 1
       apply decide_eq_decide.2
       constructor
       ·intro h; exact .inr (.inr (.inr (.inr h)))
       ·rintro (h | h | h | h | h)
        ·exact absurd h a
        ·exact absurd h a2
        ·exact absurd h a3
        ·exact absurd h a4
        ·exact h
  rw [e2]
  simp only [Option.bind_some, decide_eq_true_eq]
  by_cases h2 : (c.Tenants.any fun t => !mayB t) = true ∨ c.Quantum < 1 ∨ 1000 < c.Quantum ∨ c.Deadline < 1 ∨ 1099511627776 < c.Deadline
  ·rw [if_pos h2, if_pos h2]
  ·rw [if_neg h2, if_neg h2]
   unfold auth.Right.loop0
   rw [whileO_anyE ⟨0⟩ (fun i => (⟨(i : Int)⟩ : auth.Right.S0)) c.Tenants.length (fun i => ∃ j, j < i ∧ twins2 c.Tenants i j) (.inr 9) (.inl ()) ?_ ?_]
   ·by_cases h : ∃ i j, j < i ∧ twins2 c.Tenants i j
    ·rw [if_pos h, if_pos]
     ·rfl
     ·obtain ⟨i, j, h3, h4⟩ := h
      exact ⟨i, h4.1, j, h3, h4⟩
    ·rw [if_neg h, if_neg]
     ·rfl
     ·rintro ⟨i, _, j, h3, h4⟩; exact h ⟨i, j, h3, h4⟩
   ·intro i hi
    unfold auth.Right.body0
    simp only
    rw [if_pos (by omega), need_eq ⟨by omega, by omega⟩, need_eq ⟨by omega, by omega, by omega⟩, Right2_eq c hs i hi, i64w (by omega) (by omega)]
    by_cases h : ∃ j, j < i ∧ twins2 c.Tenants i j
    ·rw [if_pos h, if_pos h]; rfl
    ·rw [if_neg h, if_neg h]; simp [onSum]
   ·unfold auth.Right.body0
    simp

theorem rRight4_eq (c : api.Config) (hs : c.Tenants.length < 9223372036854775807) (i : Nat) (hi : i < c.Tenants.length) [Decidable (∃ k, i < k ∧ twins2 c.Tenants i k)] :
  mewsref42.Right.loop4 c ⟨(i : Int)⟩ ⟨((i + 1 : Nat) : Int)⟩ = some (if ∃ k, i < k ∧ twins2 c.Tenants i k then .inr (.inr (.inr 9)) else .inl ()) := by
 classical
 unfold mewsref42.Right.loop4
 rw [whileO_any (fun j => (⟨(j : Int)⟩ : mewsref42.Right.S4)) c.Tenants.length (fun j => twins2 c.Tenants i j) (.inr (.inr (.inr 9))) (.inl ()) ?_ ?_ (c.Tenants.length - (i + 1)) (i + 1) (by omega)]
 ·congr 1
  by_cases h : ∃ k, i < k ∧ twins2 c.Tenants i k
  ·rw [if_pos h, if_pos]; obtain ⟨j, h1, h2⟩ := h; exact ⟨j, h1, h2.2.1, h2⟩
  ·rw [if_neg h, if_neg]; rintro ⟨j, h1, _, h2⟩; exact h ⟨j, h1, h2⟩
 ·intro j hj
  unfold mewsref42.Right.body4
  simp only
  rw [if_pos (by omega), need_eq ⟨by omega, by omega⟩, need_eq ⟨by omega, by omega⟩, ix_get hi, ix_get hj, i64w (by omega) (by omega)]
  by_cases h : twins2 c.Tenants i j
  ·rw [if_pos h]
   obtain ⟨_, _, h1⟩ := h
   by_cases h2 : c.Tenants[i].Name = c.Tenants[j].Name
   ·simp [letO, h2]
   ·have h3 := h1.resolve_left h2
    simp [letO, h2, h3]
  ·rw [if_neg h]
   have h2 : ¬ c.Tenants[i].Name = c.Tenants[j].Name := fun h2 => h ⟨hi, hj, .inl h2⟩
   have h3 : ¬ c.Tenants[i].Token = c.Tenants[j].Token := fun h3 => h ⟨hi, hj, .inr h3⟩
   simp [letO, h2, h3]
 ·unfold mewsref42.Right.body4
  simp

theorem rRight_eq (c : api.Config) (hs : c.Tenants.length < 9223372036854775807) : mewsref42.Right c = some (rightN c) := by
 classical
 unfold mewsref42.Right rightN
 simp only [in_eq, Option.bind_some]
 have e1 : ((!inB (c.Tenants.length : Int) 1 16) = true) ↔ (c.Tenants.length < 1 ∨ 16 < c.Tenants.length) := by
  simp only [inB, Bool.not_eq_true', Bool.and_eq_false_iff, decide_eq_false_iff_not]; omega
 by_cases h1 : c.Tenants.length < 1 ∨ 16 < c.Tenants.length
 ·rw [if_pos (e1.2 h1), if_pos h1]
 ·rw [if_neg (fun h => h1 (e1.1 h)), if_neg h1]
  unfold mewsref42.Right.loop0
  rw [whileO_idxE ⟨0⟩ (fun i => (⟨(i : Int)⟩ : mewsref42.Right.S0)) c.Tenants (fun t : api.Tenant => !mayB t) (fun i => .inr 1) (.inl ()) ?_ ?_]
  ·have hany := idxF_isSome (p := fun t : api.Tenant => !mayB t) (xs := c.Tenants) (j := 0)
   cases hx : idxF (fun t : api.Tenant => !mayB t) c.Tenants 0 with
   | some i =>
    rw [hx] at hany
    have hc : (c.Tenants.any fun t => !mayB t) = true ∨ c.Quantum < 1 ∨ 1000 < c.Quantum ∨ c.Deadline < 1 ∨ 1099511627776 < c.Deadline := .inl hany.symm
    rw [if_pos hc]
    rfl
   | none =>
    rw [hx] at hany
    have ha : ¬ (c.Tenants.any fun t => !mayB t) = true := by rw [← hany]; simp
    simp only [Option.bind_some, onSum]
    have e2 : (if (!inB c.Quantum 1 1000) = true then some true else if c.Deadline < 1 then some true else some (decide (1099511627776 < c.Deadline))) =
      some (decide ((c.Tenants.any fun t => !mayB t) = true ∨ c.Quantum < 1 ∨ 1000 < c.Quantum ∨ c.Deadline < 1 ∨ 1099511627776 < c.Deadline)) := by
     have e3 : ((!inB c.Quantum 1 1000) = true) ↔ (c.Quantum < 1 ∨ 1000 < c.Quantum) := by simp only [inB, Bool.not_eq_true', Bool.and_eq_false_iff, decide_eq_false_iff_not]; omega
     by_cases a2 : c.Quantum < 1 ∨ 1000 < c.Quantum
     ·rw [if_pos (e3.2 a2)]
      congr 1
      symm
      rw [decide_eq_true_eq]
      rcases a2 with a | a
      ·exact .inr (.inl a)
      ·exact .inr (.inr (.inl a))
     ·rw [if_neg (fun h => a2 (e3.1 h))]
      by_cases a4 : c.Deadline < 1
      ·simp [a4]
      ·rw [if_neg a4]
       congr 1
       apply decide_eq_decide.2
       constructor
       ·intro h; exact .inr (.inr (.inr (.inr h)))
       ·rintro (h | h | h | h | h)
        ·exact absurd h ha
        ·exact absurd (.inl h) a2
        ·exact absurd (.inr h) a2
        ·exact absurd h a4
        ·exact h
    rw [e2]
    simp only [Option.bind_some, decide_eq_true_eq]
    by_cases h2 : (c.Tenants.any fun t => !mayB t) = true ∨ c.Quantum < 1 ∨ 1000 < c.Quantum ∨ c.Deadline < 1 ∨ 1099511627776 < c.Deadline
    ·rw [if_pos h2, if_pos h2]
    ·rw [if_neg h2, if_neg h2]
     unfold mewsref42.Right.loop2
     rw [whileO_anyE ⟨0⟩ (fun i => (⟨(i : Int)⟩ : mewsref42.Right.S2)) c.Tenants.length (fun i => ∃ k, i < k ∧ twins2 c.Tenants i k) (.inr 9) (.inl ()) ?_ ?_]
     ·by_cases h : ∃ i j, j < i ∧ twins2 c.Tenants i j
      ·rw [if_pos h, if_pos]
       ·rfl
       ·obtain ⟨i, j, h3, ⟨h4, h5, h6⟩⟩ := h
        exact ⟨j, h5, i, h3, h5, h4, alike_symm h6⟩
      ·rw [if_neg h, if_neg]
       ·rfl
       ·rintro ⟨i, _, k, h3, ⟨h4, h5, h6⟩⟩; exact h ⟨k, i, h3, h5, h4, alike_symm h6⟩
     ·intro i hi
      unfold mewsref42.Right.body2
      simp only
      have := rRight4_eq c hs i hi
      rw [if_pos (by omega), i64w (by omega) (by omega), show (i : Int) + 1 = ((i + 1 : Nat) : Int) by omega, this]
      by_cases h : ∃ k, i < k ∧ twins2 c.Tenants i k
      ·rw [if_pos h, if_pos h]; rfl
      ·rw [if_neg h, if_neg h]; simp [onSum]
     ·unfold mewsref42.Right.body2
      simp
  ·intro i hi
   unfold mewsref42.Right.body0
   simp only
   rw [if_pos (by omega), need_eq ⟨by omega, by omega⟩, ix_get hi, i64w (by omega) (by omega)]
   simp only [rMay_eq, Option.bind_some]
   split <;> simp
  ·unfold mewsref42.Right.body0
   simp

/-! ### How much there is -/
theorem far42_ends (c : api.Config) (l : List (List UInt8)) (hs : c.Tenants.length < 9223372036854775807) (hl : l.length < 9223372036854775807) : ∃ b, mewslaw42.far c l = some b := by
 unfold mewslaw42.far
 obtain ⟨r, hr⟩ : ∃ r, mewslaw42.far.loop0 c ⟨0, 0⟩ = some r := by
  unfold mewslaw42.far.loop0
  refine whileO_ends (fun i s => s.t13 = (i : Int)) c.Tenants.length (fun i s hi hs => ?_) (fun s hs => ?_) _ rfl
  ·unfold mewslaw42.far.body0
   rw [hs, if_pos (by omega), need_eq ⟨by omega, by omega⟩]
   refine (ite_or _ _ _).elim (fun h => .inl ⟨_, h⟩) (fun h => .inr ⟨_, h, ?_⟩)
   show IntKind.wrap .i64 ((i : Int) + 1) = ((i + 1 : Nat) : Int)
   rw [i64w (by omega) (by omega)]; omega
  ·unfold mewslaw42.far.body0
   rw [hs, if_neg (by omega)]
   exact ⟨_, rfl⟩
 obtain ⟨q, hq⟩ : ∃ r, mewslaw42.far.loop2 l ⟨0, 0⟩ = some r := by
  unfold mewslaw42.far.loop2
  refine whileO_ends (fun i s => s.t32 = (i : Int)) l.length (fun i s hi hs => ?_) (fun s hs => ?_) _ rfl
  ·unfold mewslaw42.far.body2
   rw [hs, if_pos (by omega), need_eq ⟨by omega, by omega⟩]
   refine (ite_or _ _ _).elim (fun h => .inl ⟨_, h⟩) (fun h => .inr ⟨_, h, ?_⟩)
   show IntKind.wrap .i64 ((i : Int) + 1) = ((i + 1 : Nat) : Int)
   rw [i64w (by omega) (by omega)]; omega
  ·unfold mewslaw42.far.body2
   rw [hs, if_neg (by omega)]
   exact ⟨_, rfl⟩
 rw [hr, Option.bind_some]
 cases r with
 | inr b => exact ⟨b, rfl⟩
 | inl _ =>
  simp only [onSum]
  rw [hq, Option.bind_some]
  cases q with
  | inr b => exact ⟨b, rfl⟩
  | inl _ => exact ⟨_, rfl⟩

theorem AuthRight_pure (c : api.Config) (token : List UInt8) (hs : c.Tenants.length < 9223372036854775807) : mewslaw42.AuthRight c token = some true := by
 unfold mewslaw42.AuthRight
 obtain ⟨b, hb⟩ := far42_ends c [token] hs (by simp)
 rw [hb, alive42, Right_eq c hs, rRight_eq c hs, rFind_eq c token hs]
 unfold auth.Find
 rw [Find1_eq _ _ hs]
 simp only [Option.bind_some, if_true]
 cases b <;> rfl

end Go.Pu

namespace Go.Pu.Pure
open Go.Lift Go.Pu
theorem AuthRight {a0 : api.Config} {a1 : List UInt8} (h0 : api.Config.wf a0) (h1 : a1.length ≤ 140737488351232) : mewslaw42.AuthRight a0 a1 = some true := by
 obtain ⟨⟨h2, _⟩, _⟩ := h0
 exact AuthRight_pure a0 a1 (by omega)
end Go.Pu.Pure
