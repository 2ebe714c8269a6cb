/- The pure law ConnOrder. -/
import Derived.Test.YtfapgollkabopaaCQPuBase
import Derived.Test.YtfapgollkabopaaCQC
set_option maxRecDepth 100000
namespace Go.Pu
open Go.Lift

theorem alive43 : mewslaw43.alive = some true := mewslaw43.alive.c_le 100 true (by decide +kernel)

theorem whileO_inv {σ ρ : Type} {body : σ → Option (σ ⊕ ρ)} (st : Nat → σ → Prop) (n : Nat) {r : ρ}
  (h : ∀ i s, i < n → st i s → ∃ s', body s = some (.inl s') ∧ st (i + 1) s') (he : ∀ s, st n s → body s = some (.inr r)) (s : σ) (h0 : st 0 s) : whileO body s = some r := by
 have : ∀ m j s, j + m = n → st j s → whileO body s = some r := by
  intro m
  induction m with
  | zero =>
   intro j s e hs
   obtain rfl : j = n := by omega
   exact whileO_end (he s hs)
  | succ m ih =>
   intro j s e hs
   obtain ⟨s', h1, h2⟩ := h j s (by omega) hs
   exact whileO_next h1 (ih (j + 1) s' (by omega) h2)
 exact this n 0 s (by omega) h0

/-! ### How much there is -/
def opsW : List mewslaw43.Op → Nat
 | [] => 0
 | o :: l => 1 + min o.S.length 10000 + opsW l
theorem opsW_append (a b : List mewslaw43.Op) : opsW (a ++ b) = opsW a + opsW b := by
 induction a with
 | nil => simp [opsW]
 | cons x a ih => simp [opsW, ih]; omega
def opsL : List mewslaw43.Op → Nat
 | [] => 0
 | o :: l => o.S.length + opsL l
theorem opsL_append (a b : List mewslaw43.Op) : opsL (a ++ b) = opsL a + opsL b := by
 induction a with
 | nil => simp [opsL]
 | cons x a ih => simp [opsL, ih]; omega
theorem opsW_le : ∀ {l : List mewslaw43.Op}, opsW l ≤ 3000 → l.length + opsL l ≤ 3000
 | [], _ => by simp [opsL]
 | o :: l, h => by
  simp only [opsW] at h
  have : l.length + opsL l ≤ opsW l := by
   have g : ∀ k : List mewslaw43.Op, opsW k ≤ 3000 → k.length + opsL k ≤ opsW k := by
    intro k
    induction k with
    | nil => simp [opsL, opsW]
    | cons x k ih => intro h; simp only [opsW] at h; have := ih (by omega); simp only [opsL, opsW, List.length_cons]; omega
   exact g l (by omega)
  simp only [opsL, List.length_cons]
  omega

theorem far43_eq (l : List mewslaw43.Op) (hl : l.length < 9223372036854775807) : mewslaw43.far l = some (decide (3000 < opsW l)) := by
 unfold mewslaw43.far mewslaw43.far.loop0
 have main : ∀ (rest pre : List mewslaw43.Op), l = pre ++ rest → opsW pre ≤ 3000 →
   whileO (mewslaw43.far.body0 l) ⟨(opsW pre : Int), (pre.length : Int)⟩ = some (if 3000 < opsW l then .inr true else .inl ()) := by
  intro rest
  induction rest with
  | nil =>
   intro pre e hp
   rw [List.append_nil] at e
   subst e
   apply whileO_end
   unfold mewslaw43.far.body0
   simp only
   rw [if_neg (by omega), if_neg (by omega)]
  | cons x rest ih =>
   intro pre e hp
   have hlen : l.length = pre.length + (rest.length + 1) := by rw [e]; simp
   have hx : ix l (pre.length : Int) = x := by
    rw [ix_get (by omega)]; subst e; simp
   have hmin : (if 10000 < (x.S.length : Int) then (10000 : Int) else (x.S.length : Int)) = ((min x.S.length 10000 : Nat) : Int) := by
    by_cases h : 10000 < (x.S.length : Int)
    ·rw [if_pos h]; omega
    ·rw [if_neg h]; omega
   have hb : mewslaw43.far.body0 l ⟨(opsW pre : Int), (pre.length : Int)⟩ = some (if 3000 < opsW pre + (1 + min x.S.length 10000) then .inr (.inr true) else .inl ⟨((opsW (pre ++ [x]) : Nat) : Int), (((pre ++ [x]).length : Nat) : Int)⟩) := by
    unfold mewslaw43.far.body0
    simp only
    rw [if_pos (by omega), need_eq ⟨by omega, by omega⟩, hx, hmin, i64w (n := 1 + _) (by omega) (by omega), i64w (n := (opsW pre : Int) + _) (by omega) (by omega), i64w (by omega) (by omega)]
    by_cases h : 3000 < opsW pre + (1 + min x.S.length 10000)
    ·rw [if_pos (by omega), if_pos h]
    ·rw [if_neg (by omega), if_neg h]
     have e1 : (opsW pre : Int) + (1 + ((min x.S.length 10000 : Nat) : Int)) = ((opsW (pre ++ [x]) : Nat) : Int) := by
      rw [opsW_append]; simp only [opsW]; omega
     have e2 : (pre.length : Int) + 1 = (((pre ++ [x]).length : Nat) : Int) := by simp
     rw [e1, e2]
   have hw : opsW l = opsW pre + (1 + min x.S.length 10000) + opsW rest := by rw [e, opsW_append]; simp only [opsW]; omega
   by_cases h : 3000 < opsW pre + (1 + min x.S.length 10000)
   ·rw [if_pos h] at hb
    rw [if_pos (by omega)]
    exact whileO_end hb
   ·rw [if_neg h] at hb
    refine whileO_next hb (ih (pre ++ [x]) (by rw [e]; simp) ?_)
    rw [opsW_append]; simp only [opsW]; omega
 have := main l [] rfl (by simp [opsW])
 rw [show (⟨0, 0⟩ : mewslaw43.far.S0) = ⟨((opsW [] : Nat) : Int), (([] : List mewslaw43.Op).length : Int)⟩ from rfl, this, Option.bind_some]
 by_cases h : 3000 < opsW l
 ·rw [if_pos h]; simp [h, onSum]
 ·rw [if_neg h]; simp [h, onSum]

/-! ### What is held -/
def bytesOf (hs : List api.Held) : List UInt8 := hs.flatMap (·.S)
theorem bytesOf_append (a b : List api.Held) : bytesOf (a ++ b) = bytesOf a ++ bytesOf b := by simp [bytesOf]
theorem bytesOf_cons (a : api.Held) (b : List api.Held) : bytesOf (a :: b) = a.S ++ bytesOf b := by simp [bytesOf]
theorem bytesOf_one (a : api.Held) : bytesOf [a] = a.S := by simp [bytesOf]

def relOf (d : Int) (hs : List api.Held) : List api.Held := hs.takeWhile fun h => decide (h.Need ≤ d)
def keepOf (d : Int) (hs : List api.Held) : List api.Held := hs.dropWhile fun h => decide (h.Need ≤ d)
theorem rel_keep (d : Int) (hs : List api.Held) : relOf d hs ++ keepOf d hs = hs := List.takeWhile_append_dropWhile
theorem rel_all {d : Int} {hs : List api.Held} : ∀ h ∈ relOf d hs, h.Need ≤ d := by
 intro h hh
 unfold relOf at hh
 induction hs with
 | nil => simp at hh
 | cons x hs ih =>
  rw [List.takeWhile_cons] at hh
  by_cases hx : x.Need ≤ d
  ·simp [hx] at hh
   rcases hh with rfl | hh
   ·exact hx
   ·exact ih (by simpa using hh)
  ·simp [hx] at hh
theorem relOf_of_all {d : Int} {a b : List api.Held} (h : ∀ x ∈ a, x.Need ≤ d) : relOf d (a ++ b) = a ++ relOf d b := by
 unfold relOf
 rw [List.takeWhile_append_of_pos (by simpa using h)]
theorem keepOf_le (d : Int) (hs : List api.Held) : (keepOf d hs).length ≤ hs.length := by
 have := congrArg List.length (rel_keep d hs); simp at this; omega

def freeC (c : api.Conn) (d : Int) : api.Conn :=
 { c with Held := keepOf d c.Held, Out := c.Out ++ bytesOf (relOf d c.Held), Closed := c.Closed || (c.Shut && (decide (c.Asked = 0) && (keepOf d c.Held).isEmpty)) }

theorem Free_eq (c : api.Conn) (d : Int) (hl : c.Held.length ≤ 1000000) (hb : c.Out.length + (bytesOf c.Held).length ≤ 9223372036854775807) : conn.Free c d = some (freeC c d) := by
 unfold conn.Free conn.Free.loop0
 have main : ∀ (rest pre : List api.Held), c.Held = pre ++ rest →
   whileO (conn.Free.body0 c d) ⟨(pre.length : Int), c.Out ++ bytesOf pre⟩ = some (((pre.length + (relOf d rest).length : Nat) : Int), c.Out ++ bytesOf pre ++ bytesOf (relOf d rest)) := by
  intro rest
  induction rest with
  | nil =>
   intro pre e
   rw [List.append_nil] at e
   apply whileO_end
   unfold conn.Free.body0
   simp only
   rw [e, if_neg (by omega)]
   simp [relOf, bytesOf]
  | cons x rest ih =>
   intro pre e
   have hlen : c.Held.length = pre.length + (rest.length + 1) := by rw [e]; simp
   have hx : ix c.Held (pre.length : Int) = x := by
    rw [ix_get (by omega)]; simp [e]
   have hbl : (bytesOf c.Held).length = (bytesOf pre).length + (x.S.length + (bytesOf rest).length) := by rw [e, bytesOf_append, bytesOf_cons]; simp
   by_cases h : x.Need ≤ d
   ·have hb : conn.Free.body0 c d ⟨(pre.length : Int), c.Out ++ bytesOf pre⟩ = some (.inl ⟨(((pre ++ [x]).length : Nat) : Int), c.Out ++ bytesOf (pre ++ [x])⟩) := by
     unfold conn.Free.body0
     simp only
     rw [if_pos (by omega), need_eq ⟨by omega, by omega⟩, hx, if_neg (by omega), need_eq (by simp; omega), i64w (by omega) (by omega), bytesOf_append, bytesOf_one, List.append_assoc]
     simp
    refine (whileO_next hb (ih (pre ++ [x]) (by rw [e]; simp))).trans ?_
    have e2 : relOf d (x :: rest) = x :: relOf d rest := by simp [relOf, List.takeWhile_cons, h]
    rw [e2, bytesOf_append, bytesOf_one, bytesOf_cons]
    simp [Nat.add_assoc, Nat.add_comm 1]
   ·have e2 : relOf d (x :: rest) = [] := by simp [relOf, List.takeWhile_cons, h]
    apply whileO_end
    unfold conn.Free.body0
    simp only
    rw [if_pos (by omega), need_eq ⟨by omega, by omega⟩, hx, if_pos (by omega), e2]
    simp [bytesOf]
 have := main c.Held [] rfl
 rw [show (⟨0, c.Out⟩ : conn.Free.S0) = ⟨(([] : List api.Held).length : Int), c.Out ++ bytesOf []⟩ by simp [bytesOf], this, Option.bind_some]
 simp only [List.length_nil, Nat.zero_add]
 have hrl : (relOf d c.Held).length ≤ c.Held.length := by
  have := congrArg List.length (rel_keep d c.Held); simp at this; omega
 have hd : sub c.Held ((relOf d c.Held).length : Int) (c.Held.length : Int) = keepOf d c.Held := by
  rw [sub_all, Int.toNat_natCast]
  conv => lhs; arg 2; rw [← rel_keep d c.Held]
  simp
 have hkl := keepOf_le d c.Held
 rw [need_eq ⟨by omega, by omega, by omega⟩, hd]
 unfold slices.Clone_api_Held
 rw [need_eq (by simp only [List.length_nil]; omega)]
 simp only [Option.bind_some, letO, freeC, bytesOf, List.flatMap_nil, List.append_nil]
 congr 2
 have e0 : ((keepOf d c.Held).isEmpty) = decide (((keepOf d c.Held).length : Int) = 0) := by cases keepOf d c.Held <;> simp <;> omega
 rw [e0]
 cases c.Closed <;> cases c.Shut <;> simp

theorem Pending_eq (c : api.Conn) (hb : c.Out.length + (bytesOf c.Held).length ≤ 9223372036854775807) (hl : c.Held.length ≤ 1000000) : conn.Pending c = some ((c.Out.length + (bytesOf c.Held).length : Nat) : Int) := by
 unfold conn.Pending conn.Pending.loop0
 rw [whileO_inv (fun i s => s.t12 = (i : Int) ∧ s.n = ((c.Out.length + (bytesOf (c.Held.take i)).length : Nat) : Int)) c.Held.length (r := ((c.Out.length + (bytesOf c.Held).length : Nat) : Int)) ?_ ?_ _ ⟨rfl, by simp [bytesOf]⟩]
 ·rfl
 ·rintro i s hi ⟨h1, h2⟩
  have hle : (bytesOf (c.Held.take (i + 1))).length = (bytesOf (c.Held.take i)).length + c.Held[i].S.length := by
   rw [List.take_add_one, List.getElem?_eq_getElem hi, bytesOf_append]; simp [bytesOf]
  have hle2 : (bytesOf (c.Held.take (i + 1))).length ≤ (bytesOf c.Held).length := by
   conv => rhs; rw [← List.take_append_drop (i + 1) c.Held, bytesOf_append]
   simp
  unfold conn.Pending.body0
  refine ⟨_, by rw [h1, if_pos (by omega), need_eq ⟨by omega, by omega⟩], ?_, ?_⟩
  ·show IntKind.wrap .i64 ((i : Int) + 1) = ((i + 1 : Nat) : Int)
   rw [i64w (by omega) (by omega)]; omega
  ·show IntKind.wrap .i64 (s.n + ((ix c.Held (i : Int)).S.length : Int)) = _
   rw [h2, ix_get hi, i64w (by omega) (by omega), hle]; omega
 ·rintro s ⟨h1, h2⟩
  unfold conn.Pending.body0
  rw [h1, if_neg (by omega), h2, List.take_length]

theorem Clone_Held (s : List api.Held) (h : s.length ≤ 1000001) : slices.Clone_api_Held s = some s := by
 unfold slices.Clone_api_Held
 rw [need_eq (by simp only [List.length_nil]; omega)]

def sayC (c : api.Conn) (s : List UInt8) (n d : Int) (lim : Int) : api.Conn :=
 if c.Closed = true then c
 else if lim < (((freeC { c with Held := c.Held ++ [({ Need := n, S := s } : api.Held)] } d).Out.length + (bytesOf (freeC { c with Held := c.Held ++ [({ Need := n, S := s } : api.Held)] } d).Held).length : Nat) : Int) then
  { freeC { c with Held := c.Held ++ [({ Need := n, S := s } : api.Held)] } d with Held := [], Out := [], Closed := true }
 else freeC { c with Held := c.Held ++ [({ Need := n, S := s } : api.Held)] } d

theorem free_len (c : api.Conn) (d : Int) : (freeC c d).Out.length + (bytesOf (freeC c d).Held).length = c.Out.length + (bytesOf c.Held).length := by
 have := congrArg (fun l => (bytesOf l).length) (rel_keep d c.Held)
 simp only [bytesOf_append, List.length_append] at this
 simp only [freeC, List.length_append]
 omega

theorem Say_eq (c : api.Conn) (s : List UInt8) (n d : Int) (t : api.Tenant) (hl : c.Held.length ≤ 999999) (hb : c.Out.length + (bytesOf c.Held).length + s.length ≤ 9223372036854775807) : conn.Say c s n d t = some (sayC c s n d t.Out) := by
 unfold conn.Say sayC
 by_cases h : c.Closed = true
 ·rw [if_pos h, if_pos h]
 ·rw [if_neg h, if_neg h, Clone_Held _ (by omega), Option.bind_some, need_eq (by simp; omega)]
  have hbb : (bytesOf (c.Held ++ [({ Need := n, S := s } : api.Held)])).length = (bytesOf c.Held).length + s.length := by rw [bytesOf_append]; simp [bytesOf]
  have hb2 : c.Out.length + (bytesOf (c.Held ++ [({ Need := n, S := s } : api.Held)])).length ≤ 9223372036854775807 := by omega
  rw [Free_eq _ d (by simp; omega) hb2, Option.bind_some, Pending_eq]
  ·simp only [Option.bind_some]
   split <;> rfl
  ·rw [free_len]; exact hb2
  ·refine Nat.le_trans (keepOf_le d _) ?_
   simp; omega

def takeN (c : api.Conn) (n : Int) : Nat := min c.Out.length n.toNat
theorem Take_eq (c : api.Conn) (n : Int) (hb : c.Out.length ≤ 9223372036854775807) : conn.Take c n = some ({ c with Out := c.Out.drop (takeN c n), Taken := IntKind.wrap .i64 (c.Taken + (takeN c n : Int)) }, c.Out.take (takeN c n)) := by
 unfold conn.Take
 have e : (if (c.Out.length : Int) < (if n < 0 then 0 else n) then (c.Out.length : Int) else (if n < 0 then 0 else n)) = ((takeN c n : Nat) : Int) := by
  unfold takeN
  by_cases h : n < 0
  ·simp only [if_pos h]; rw [if_neg (by omega)]; omega
  ·simp only [if_neg h]
   by_cases h2 : (c.Out.length : Int) < n
   ·rw [if_pos h2]; omega
   ·rw [if_neg h2]; omega
 have hk : takeN c n ≤ c.Out.length := Nat.min_le_left _ _
 rw [e, need_eq ⟨by omega, by omega, by omega⟩, need_eq ⟨by omega, by omega, by omega⟩, sub_all, sub_zero, Int.toNat_natCast]

end Go.Pu
