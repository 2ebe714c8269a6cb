/- The pure law AuthOwn. -/
import Derived.Test.YtfapgollkabopaaAOPuAuth4
import Derived.Test.YtfapgollkabopaaAOPuCount1
import Derived.Test.YtfapgollkabopaaAOPuConn3
set_option maxRecDepth 100000
namespace Go.Pu
open Go.Lift

theorem L16_good : GoodL L16 := ⟨⟨by decide, by decide⟩, ⟨by decide, by decide⟩, ⟨by decide, by decide⟩⟩
theorem qW_fresh (w : List UInt8) : qW w = runP (freshP w L16 []) := rfl
theorem fresh16 (w : List UInt8) (h : w.length ≤ 1000000) : PInv (freshP w L16 []) := start_inv w L16 (by omega)

abbrev lead : List UInt8 := [13, 10, 42, 48, 13, 10]
theorem lead_run (u : List UInt8) (h : u.length ≤ 900000) : qW (lead ++ u) = qW u := by
 rw [qW_fresh, qW_fresh]
 have hinv := fresh16 (lead ++ u) (by simp; omega)
 have hst : stepP (freshP (lead ++ u) L16 []) = (true, freshP (putM [] ++ u) L16 []) := by
  have hd0 : dtext 0 = [48] := by rw [dtext_small (by omega)]; rfl
  have hput : putM [] ++ u = 42 :: 48 :: 13 :: 10 :: u := by simp [putM, putAs, hd0]
  have hnl : nlN (13 :: 10 :: 42 :: 48 :: 13 :: 10 :: u) = 1 := by rw [nlN_cons _ (by decide), nlN_cons_nl]
  have hline : lineM (13 :: 10 :: 42 :: 48 :: 13 :: 10 :: u) L16 = .ok [] 1 := by
   unfold lineM
   rw [hnl, if_pos (by simp), if_neg (by decide)]
   have : splitM (trimM (List.take 1 (13 :: 10 :: 42 :: 48 :: 13 :: 10 :: u))) [] = some [] := by
    have e : trimM (List.take 1 (13 :: 10 :: 42 :: 48 :: 13 :: 10 :: u)) = [] := by simp [trimM]
    rw [e, splitM_end rfl]
   rw [this]
   rfl
  unfold stepP
  rw [if_neg (by simp [freshP]), if_neg (by show ¬ (0 : Int) < 0; omega)]
  show (if (13 : UInt8) = 42 then _ else lineP (lineM (13 :: 10 :: 42 :: 48 :: 13 :: 10 :: u) L16) (freshP (lead ++ u) L16 [])) = _
  rw [if_neg (by decide), hline, hput]
  rfl
 have hs : (stepP (freshP (lead ++ u) L16 [])).1 = true := by rw [hst]
 rw [runP_next hinv hs, hst]
 have hinv2 := (stepP_ok hinv hs).1
 rw [hst] at hinv2
 rcases run_put L16 L16_good [] u [] hinv2 with ⟨_, h2, _⟩ | ⟨e, _, _, h3 | ⟨x, hx, _⟩⟩
 ·exact h2
 ·exact absurd h3 (by decide)
 ·cases hx

abbrev authA (token : List UInt8) : List (List UInt8) := [[65, 117, 116, 104], token]
theorem auth_len (token : List UInt8) (h : token.length ≤ 64) : (putM (authA token)).length ≤ 200 ∧ 20 ≤ (putM (authA token)).length := by
 have h1 := dtext_len2 1 token.length (by omega)
 have h2 := (dtext_len token.length).1
 have h3 := dtext_len2 0 4 (by omega)
 have h4 := (dtext_len 4).1
 have h5 := dtext_len2 0 2 (by omega)
 have h6 := (dtext_len 2).1
 simp [putM, putAs, putA]
 omega
theorem auth_run (token : List UInt8) (h : token.length ≤ 64) : qW (putM (authA token)) = freshP [] L16 [({ Args := authA token, Size := ((putM (authA token)).length : Int) } : api.Request)] := by
 have hl := auth_len token h
 rw [qW_fresh]
 have hinv := fresh16 (putM (authA token) ++ []) (by rw [List.append_nil]; omega)
 rcases run_put L16 L16_good [] [] (authA token) hinv with ⟨_, h2, _⟩ | ⟨e, _, _, h3 | ⟨x, hx, h4⟩⟩
 ·rw [List.append_nil] at h2
  rw [h2, if_neg (by simp), List.nil_append]
  rw [runP_stop]
  ·rfl
  ·rfl
 ·exact absurd h3 (show ¬ (16 : Int) < 2 by decide)
 ·exfalso
  have e1 : L16.Bulk = 1024 := rfl
  rw [e1] at h4
  simp only [authA, List.mem_cons, List.not_mem_nil, or_false] at hx
  rcases hx with rfl | rfl
  ·simp at h4
  ·omega

theorem out_size (p : List UInt8) (h : p.length ≤ 1000000) : sizeQ (qW p).out ≤ (p.length : Int) := by
 have hs := start_inv p L16 (by omega)
 have hz := runP_size hs (start_size p L16 (by omega))
 have h1 := hz.sum
 have h2 := (runP_inv hs).1.size.1
 show sizeQ (runP (startP emptyIn p L16)).out ≤ _
 omega

/-- Ahead of its last byte nothing is told. -/
theorem own_prefix {S p b : List UInt8} {r : api.Request} (hS : S.length ≤ 1000) (e : S = p ++ b) (hb : b ≠ []) (hd : (qW S).in_.Dead = 0) (ho : (qW S).out = [r]) (hz : sizeQ (qW p).out < r.Size) : Quiet p := by
 have hl : p.length + b.length ≤ 1000 := by rw [e] at hS; simpa using hS
 rcases feed_more (all := p) (b := b) (l := L16) (by omega) with ⟨g1, g2, g3⟩ | ⟨e', g1, g2, g3⟩
 ·refine ⟨g1, ?_⟩
  have h1 : (qW S).out = (qW p).out ++ (runP (startP (inOf (qW p)) b L16)).out := by
   rw [e]
   show (runP (startP emptyIn (p ++ b) L16)).out = _
   rw [g3]; rfl
  rw [ho] at h1
  cases hq : (qW p).out with
  | nil => rfl
  | cons x xs =>
   exfalso
   rw [hq] at h1 hz
   have hx : x = r ∧ xs = [] := by
    cases xs with
    | nil => simp at h1; exact ⟨h1.1.symm, rfl⟩
    | cons y ys => simp at h1
   rw [hx.1, hx.2] at hz
   simp only [sizeQ] at hz
   omega
 ·exfalso
  have h1 : (qW p).in_.Dead = e' := congrArg api.Input.Dead g2
  have h2 : qW S = qW p := by rw [e]; exact g3
  rw [h2, h1] at hd
  omega

theorem own_first (c : api.Config) {S : List UInt8} {r : api.Request} (behind : List UInt8) (hS : S.length ≤ 1000) (hd : (qW S).in_.Dead = 0) (ho : (qW S).out = [r]) (hz : ∀ p b, S = p ++ b → b ≠ [] → sizeQ (qW p).out < r.Size) :
  ∀ (t pre : List UInt8), S = pre ++ t → t ≠ [] → firstM c (t ++ behind) pre = (emptyIn, behind, (verdM c r.Args).1, (verdM c r.Args).2)
 | [], pre, e, h => absurd rfl h
 | [b], pre, e, _ => by
  rw [List.cons_append, List.nil_append, firstM, ← e, if_pos hd, if_neg (by rw [ho]; simp), ho]
  rfl
 | b :: d :: t, pre, e, _ => by
  have hq : Quiet (pre ++ [b]) := own_prefix hS (show S = (pre ++ [b]) ++ (d :: t) by rw [e]; simp) (by simp) hd ho (hz (pre ++ [b]) (d :: t) (by rw [e]; simp) (by simp))
  rw [List.cons_append, firstM, if_pos hq.dead, if_pos hq.out]
  exact own_first c behind hS hd ho hz (d :: t) (pre ++ [b]) (by rw [e]; simp) (by simp)

/-- The same, of the text of the law. -/
theorem own_text (c : api.Config) (token behind : List UInt8) (line_ : Bool) (h : token.length ≤ 64) :
  firstM c ((if line_ = true then lead ++ putM (authA token) else putM (authA token)) ++ behind) [] = (emptyIn, behind, (verdM c (authA token)).1, (verdM c (authA token)).2) := by
 have hl := auth_len token h
 have hrun := auth_run token h
 cases line_ with
 | false =>
  rw [if_neg (by simp)]
  refine own_first c (S := putM (authA token)) (r := { Args := authA token, Size := ((putM (authA token)).length : Int) }) behind (by omega) (by rw [hrun]; rfl) (by rw [hrun]; rfl) (fun p b e hb => ?_) _ [] rfl (by intro e; rw [e] at hl; simp at hl)
  have h1 := congrArg List.length e
  rw [List.length_append] at h1
  have h2 : 0 < b.length := List.length_pos_iff.2 hb
  have := out_size p (by omega)
  show sizeQ (qW p).out < ((putM (authA token)).length : Int)
  omega
 | true =>
  rw [if_pos rfl]
  have hrun2 := lead_run (putM (authA token)) (by omega)
  rw [hrun] at hrun2
  refine own_first c (S := lead ++ putM (authA token)) (r := { Args := authA token, Size := ((putM (authA token)).length : Int) }) behind (by simp; omega) (by rw [hrun2]; rfl) (by rw [hrun2]; rfl) (fun p b e hb => ?_) _ [] rfl (by simp)
  have h1 := congrArg List.length e
  rw [List.length_append, List.length_append] at h1
  have h2 : 0 < b.length := List.length_pos_iff.2 hb
  have h6 : lead.length = 6 := rfl
  show sizeQ (qW p).out < ((putM (authA token)).length : Int)
  by_cases hp : p.length ≤ 6
  ·have := out_size p (by omega)
   omega
  ·-- the lead is gone past
   have h3 : lead <+: p := by
    have ha : lead <+: p ++ b := ⟨putM (authA token), e⟩
    exact List.prefix_of_prefix_length_le ha (List.prefix_append p b) (by omega)
   obtain ⟨p', rfl⟩ := h3
   rw [List.length_append] at h1 hp
   rw [lead_run p' (by omega)]
   have := out_size p' (by omega)
   omega

theorem verd_own (c : api.Config) (token : List UInt8) (h : 0 ≤ findI c token) : verdM c (authA token) = (findI c token, 1) := by
 unfold verdM
 rw [if_pos (by rfl)]
 show (if findI c token < 0 then _ else _) = _
 rw [if_neg (by omega)]
 rfl

theorem labelM_one (c : api.Config) (s : List UInt8) (ps : List (List UInt8)) (h : (firstM c s []).2.2.2 ≠ 0) : labelM c (s :: ps) [] = (firstM c s []).2.2.1 := by
 rw [labelM_cons, if_neg h]

theorem find_own (c : api.Config) (i : Nat) (hi : i < c.Tenants.length) (h : ¬ ∃ i j, j < i ∧ twins2 c.Tenants i j) : findI c c.Tenants[i].Token = (i : Int) := by
 unfold findI
 have hex : (idxF (fun t : api.Tenant => decide (t.Token = c.Tenants[i].Token)) c.Tenants 0).isSome = true := by
  rw [idxF_isSome, List.any_eq_true]
  exact ⟨c.Tenants[i], List.getElem_mem hi, by simp⟩
 cases hx : idxF (fun t : api.Tenant => decide (t.Token = c.Tenants[i].Token)) c.Tenants 0 with
 | none => rw [hx] at hex; cases hex
 | some j =>
  obtain ⟨_, h2, h3, h4⟩ := idxF_some hx
  simp only [Nat.sub_zero, decide_eq_true_eq] at h3 h4
  have : j = i := by
   rcases Nat.lt_trichotomy j i with hlt | heq | hgt
   ·exact absurd ⟨i, j, hlt, hi, h3, .inr h4.symm⟩ h
   ·exact heq
   ·exact absurd ⟨j, i, hgt, h3, hi, .inr h4⟩ h
  rw [this]

theorem far42_none (c : api.Config) (behind : List UInt8) (hc : c.Tenants.length < 9223372036854775807) (hf : mewslaw42.far c [behind] = some false) : mewslaw42.far c [] = some false := by
 have hl2 : ∃ r, mewslaw42.far.loop2 [behind] ⟨0, 0⟩ = some r ∧ (r = .inl () ∨ r = .inr true) := by
  unfold mewslaw42.far.loop2
  refine whileO_endsQ (fun i s => s.t32 = (i : Int)) ([behind] : List (List UInt8)).length _ (fun i s hi hs' => ?_) (fun s hs' => ?_) _ rfl
  ·simp only [List.length_singleton] at hi
   unfold mewslaw42.far.body2
   rw [hs', if_pos (by simp only [List.length_singleton]; omega), need_eq ⟨by omega, by simp only [List.length_singleton]; omega⟩]
   refine (ite_or _ _ _).elim (fun h => .inl ⟨_, h, .inr rfl⟩) (fun h => .inr ⟨_, h, ?_⟩)
   show IntKind.wrap .i64 ((i : Int) + 1) = ((i + 1 : Nat) : Int)
   rw [i64w (by omega) (by omega)]; omega
  ·unfold mewslaw42.far.body2
   rw [hs', if_neg (by omega)]
   exact ⟨_, rfl, .inl rfl⟩
 obtain ⟨r, h1, h2⟩ := hl2
 have hl0 : mewslaw42.far.loop2 [] ⟨0, 0⟩ = some (.inl ()) := whileO_end rfl
 unfold mewslaw42.far at hf ⊢
 cases hr0 : mewslaw42.far.loop0 c ⟨0, 0⟩ with
 | none => rw [hr0] at hf; cases hf
 | some r0 =>
  rw [hr0] at hf
  cases r0 with
  | inr b0 => exact hf
  | inl u =>
   simp only [Option.bind_some, onSum, h1, hl0] at hf ⊢
   rcases h2 with rfl | rfl
   ·simp only [letO, Option.some.injEq] at hf ⊢
    by_cases h100 : 100 < (c.Tenants.length : Int)
    ·rw [if_pos h100] at hf; cases hf
    ·rw [if_neg h100]; rfl
   ·cases hf

theorem AuthOwn_pure (c : api.Config) (at_ : Int) (behind : List UInt8) (line_ : Bool) (hc : c.Tenants.length < 140737488355328) (hb : behind.length ≤ 140737488355328) : mewslaw42.AuthOwn c at_ behind line_ = some true := by
 classical
 unfold mewslaw42.AuthOwn
 obtain ⟨b, hf, hf2⟩ := far42_eq c [behind] (by omega) (by simp)
 rw [hf, alive42, Right_eq c (by omega), rRight_eq c (by omega)]
 simp only [Option.bind_some]
 cases b with
 | true =>
  simp only [if_true]
  by_cases hr : rightN c = 0
  ·rw [if_pos hr]; simp
  ·rw [if_neg hr]
   obtain ⟨b2, hb2⟩ := far42_ends c [] (by omega) (by simp)
   rw [hb2]
   cases b2 <;> simp
 | false =>
  obtain ⟨_, hl300⟩ := hf2 rfl
  simp only [lenS] at hl300
  simp only [Bool.false_eq_true, if_false, Option.bind_some]
  by_cases hr : rightN c = 0
  ·rw [hr]
   simp only [decide_true, Bool.not_true, Bool.false_eq_true, if_false]
   -- a configuration that may be
   have hR : ¬ (c.Tenants.length < 1 ∨ 16 < c.Tenants.length) ∧ ¬ ((c.Tenants.any fun t => !mayB t) = true ∨ c.Quantum < 1 ∨ 1000 < c.Quantum ∨ c.Deadline < 1 ∨ 1099511627776 < c.Deadline) ∧ ¬ ∃ i j, j < i ∧ twins2 c.Tenants i j := by
    unfold rightN at hr
    split at hr
    ·cases hr
    ·rename_i h1
     split at hr
     ·cases hr
     ·rename_i h2
      split at hr
      ·cases hr
      ·rename_i h3
       exact ⟨h1, h2, h3⟩
   obtain ⟨h1, h2, h3⟩ := hR
   rw [u64w (n := (c.Tenants.length : Int)) (by omega) (by omega)]
   have hlen : 1 ≤ c.Tenants.length ∧ c.Tenants.length ≤ 16 := by omega
   have hu : 0 ≤ IntKind.wrap .u64 at_ ∧ IntKind.wrap .u64 at_ < 18446744073709551616 := by
    simp [IntKind.wrap, IntKind.bits, IntKind.signed]; omega
   obtain ⟨i, hi, hil⟩ : ∃ i : Nat, (IntKind.wrap .u64 at_).tmod (c.Tenants.length : Int) = (i : Int) ∧ i < c.Tenants.length := by
    have g1 := Int.tmod_nonneg (c.Tenants.length : Int) hu.1
    have g2 := Int.tmod_lt_of_pos (IntKind.wrap .u64 at_) (show 0 < (c.Tenants.length : Int) by omega)
    exact ⟨((IntKind.wrap .u64 at_).tmod (c.Tenants.length : Int)).toNat, by omega, by omega⟩
   rw [hi, i64w (n := (i : Int)) (by omega) (by omega), need_eq (by omega), need_eq ⟨by omega, by omega⟩, ix_get hil]
   have hfind := find_own c i hil h3
   have htl : c.Tenants[i].Token.length ≤ 64 := by
    have hm : mayB c.Tenants[i] = true := by
     cases hm : mayB c.Tenants[i] with
     | true => rfl
     | false => exact absurd (.inl (List.any_eq_true.2 ⟨c.Tenants[i], List.getElem_mem hil, by simp [hm]⟩)) h2
    unfold mayB at hm
    simp only [Bool.and_eq_true] at hm
    have := hm.1.1.1.1.1.1.1.1.1.1.1.1.2
    unfold inB at this
    simp only [Bool.and_eq_true, decide_eq_true_eq] at this
    omega
   generalize c.Tenants[i].Token = token at hfind htl
   have hfm : auth.Find c token = some (i : Int) := by
    unfold auth.Find
    rw [Find1_eq _ _ (by omega)]
    exact congrArg some hfind
   rw [hfm]
   simp only [Option.bind_some, if_true]
   have hl := auth_len token htl
   have hput : mewsref05.Put (authA token) = some (putM (authA token)) := rPut5_eq _ (by simp [lenS]; omega) (by simp)
   rw [show [[65, 117, 116, 104], token] = authA token from rfl, hput]
   simp only [Option.bind_some]
   have hs : (if line_ = true then need (([13, 10, 42, 48, 13, 10] : List UInt8).length + (putM (authA token)).length ≤ 9223372036854775807) (some (([13, 10, 42, 48, 13, 10] : List UInt8) ++ putM (authA token))) else some (putM (authA token))) = some (if line_ = true then lead ++ putM (authA token) else putM (authA token)) := by
    cases line_ with
    | true => rw [if_pos rfl, if_pos rfl, need_eq (by show 6 + _ ≤ _; omega)]
    | false => rfl
   have hs' : (if line_ = true then need ([13, 10, 42, 48, 13, 10].length + (putM (authA token)).length ≤ 9223372036854775807) (some (([13, 10, 42, 48, 13, 10] : List UInt8) ++ putM (authA token))) else some (putM (authA token))) = some (if line_ = true then lead ++ putM (authA token) else putM (authA token)) := hs
   rw [hs']
   simp only [Option.bind_some]
   have hT := own_text c token
   generalize hS : (if line_ = true then lead ++ putM (authA token) else putM (authA token)) = S at hT ⊢
   have hSl : S.length ≤ 206 := by rw [← hS]; cases line_ <;> simp <;> omega
   have hT1 : ∀ bh, firstM c (S ++ bh) [] = (emptyIn, bh, (i : Int), 1) := by
    intro bh
    have := own_text c token bh line_ htl
    rw [hS, verd_own c token (by rw [hfind]; omega), hfind] at this
    exact this
   have hfirst : auth.First c emptyIn (S ++ behind) = some (emptyIn, behind, (i : Int), 1) := by
    have := First_eq c (by omega) (S ++ behind) [] (by simp; omega) quiet_nil
    rw [hT1, qW_nil] at this
    exact this
   rw [need_eq (by omega), show auth.First c ({ Rest := ([] : List UInt8), Args := ([] : List (List UInt8)), Left := 0, Size := 0, Body := false, Need := 0, Dead := 0 } : api.Input) (S ++ behind) = some (emptyIn, behind, (i : Int), 1) from hfirst]
   simp only [Option.bind_some, if_true]
   rw [need_eq (by omega), Label_eq c (by omega) [S ++ behind] (by simp) (by simp [lenS]; omega), labelM_one c _ _ (by rw [hT1]; show (1 : Int) ≠ 0; decide), hT1]
   simp only [Option.bind_some, if_true]
   have hT2 := hT1 []
   rw [List.append_nil] at hT2
   rw [Label_eq c (by omega) [S, behind] (by simp) (by simp [lenS]; omega), labelM_one c _ _ (by rw [hT2]; show (1 : Int) ≠ 0; decide), hT2]
   simp
  ·simp only [hr, decide_false, Bool.not_false, if_true]
   rw [far42_none c behind (by omega) hf]
   simp

end Go.Pu

namespace Go.Pu.Pure
open Go.Lift Go.Pu
theorem AuthOwn {a0 : api.Config} {a1 : Int} {a2 : List UInt8} {a3 : Bool} (h0 : api.Config.wf a0) (h1 : (Lit.int .i64 a1).wf = true) (h2 : a2.length ≤ 140737488351232) (h3 : True) : mewslaw42.AuthOwn a0 a1 a2 a3 = some true := by
 obtain ⟨⟨h3, _⟩, _⟩ := h0
 exact AuthOwn_pure a0 a1 a2 a3 (by omega) (by omega)
end Go.Pu.Pure
