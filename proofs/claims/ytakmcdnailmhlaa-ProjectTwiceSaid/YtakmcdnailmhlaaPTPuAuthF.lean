import Derived.Test.YtakmcdnailmhlaaPTPuStream
set_option maxRecDepth 100000
namespace Go.Pu
open Go.Lift

theorem run_empty (l : api.Limits) : runP (startP emptyIn [] l) = startP emptyIn [] l := by
 rw [runP_stop]
 ·rfl
 ·rfl


theorem Find1_eq (s : List api.Tenant) (token : List UInt8) (hs : s.length < 9223372036854775807) :
  slices.IndexFunc_api_Tenant_auth_Find_1 s token = some (match idxF (fun t : api.Tenant => decide (t.Token = token)) s 0 with | some i => (i : Int) | none => -1) := by
 unfold slices.IndexFunc_api_Tenant_auth_Find_1 slices.IndexFunc_api_Tenant_auth_Find_1.loop0
 rw [whileO_idxE ⟨0⟩ (fun i => (⟨(i : Int)⟩ : slices.IndexFunc_api_Tenant_auth_Find_1.S0)) s (fun t : api.Tenant => decide (t.Token = token)) (fun i => .inr (i : Int)) (.inl ()) ?_ ?_]
 ·cases idxF (fun t : api.Tenant => decide (t.Token = token)) s 0 <;> rfl
 ·intro i hi
  unfold slices.IndexFunc_api_Tenant_auth_Find_1.body0 auth.Find_1
  simp only
  rw [if_pos (by omega), need_eq ⟨by omega, by omega⟩, ix_get hi, i64w (by omega) (by omega)]
  simp only [Option.bind_some, decide_eq_true_eq]
  split <;> simp
 ·unfold slices.IndexFunc_api_Tenant_auth_Find_1.body0
  simp


/-! ### Upper -/
def upC (c : UInt8) : UInt8 := if 97 ≤ c.toNat ∧ c.toNat ≤ 122 then UInt8.ofNat (c.toNat - 32) else c

theorem upper_byte (c : UInt8) : (if 97 ≤ (c.toNat : Int) then decide ((c.toNat : Int) ≤ 122) else false) = decide (97 ≤ c.toNat ∧ c.toNat ≤ 122) := by
 by_cases h : 97 ≤ (c.toNat : Int)
 ·rw [if_pos h]; apply decide_eq_decide.2; omega
 ·rw [if_neg h]; symm; rw [decide_eq_false_iff_not]; omega

theorem Upper_eq (s : List UInt8) (hs : s.length ≤ 1000000000) : table.Upper s = some (s.map upC) := by
 unfold table.Upper
 rw [need_eq (by omega)]
 have hloop : table.Upper.loop0 s ⟨0, s⟩ = some (s.map upC) := by
  unfold table.Upper.loop0
  let st : Nat → table.Upper.S0 := fun i => ⟨(i : Int), (s.take i).map upC ++ s.drop i⟩
  refine whileO_knownE _ st s.length (fun i hi => ?_) ?_ (by simp [st])
  ·have hl : ((s.take i).map upC ++ s.drop i).length = s.length := by simp; omega
   have hx : ix ((s.take i).map upC ++ s.drop i) (i : Int) = s[i] := by
    rw [ix_get (by omega), List.getElem_append_right (by simp; omega)]
    simp [List.getElem_drop]
    congr 1; omega
   have hc := s[i].toNat_lt
   have hnext : (s.take (i + 1)).map upC ++ s.drop (i + 1) = upd ((s.take i).map upC ++ s.drop i) (i : Int) (upC s[i]) := by
    unfold upd
    rw [Int.toNat_natCast, List.take_add_one, List.getElem?_eq_getElem hi]
    simp only [Option.toList_some, List.map_append, List.map_cons, List.map_nil]
    rw [List.set_append_right _ _ (by simp; omega)]
    have e0 : i - (List.map upC (s.take i)).length = 0 := by simp; omega
    rw [e0, List.drop_eq_getElem_cons hi, List.set_cons_zero, List.append_assoc]
    rfl
   unfold table.Upper.body0
   simp only [st, letO]
   rw [if_pos (by omega), need_eq ⟨by omega, by omega⟩, need_eq ⟨by omega, by omega⟩, hx, upper_byte, hnext]
   by_cases h : 97 ≤ s[i].toNat ∧ s[i].toNat ≤ 122
   ·rw [decide_eq_true h, if_pos rfl, need_eq ⟨by omega, by omega⟩, need_eq ⟨by omega, by omega⟩, u8w (n := (s[i].toNat : Int) - 97) (by omega) (by omega), u8w (by omega) (by omega)]
    have e : (s[i].toNat : Int) - 97 + 65 = ((upC s[i]).toNat : Int) := by
     unfold upC
     rw [if_pos h]
     simp; omega
    rw [e, need_eq (isU8_toNat _), u8_toNat]
    simp only [Option.bind_some]
    rw [i64w (by omega) (by omega)]
    rfl
   ·rw [decide_eq_false h]
    simp only [Bool.false_eq_true, if_false, Option.bind_some]
    have e : upC s[i] = s[i] := by unfold upC; rw [if_neg h]
    rw [e, i64w (by omega) (by omega)]
    have : upd ((s.take i).map upC ++ s.drop i) (i : Int) s[i] = (s.take i).map upC ++ s.drop i := by
     unfold upd
     rw [Int.toNat_natCast]
     have h2 : ((s.take i).map upC ++ s.drop i)[i]'(by omega) = s[i] := by
      rw [ix_get (by omega)] at hx; exact hx
     rw [← h2, List.set_getElem_self]
    rw [this]
    rfl
  ·unfold table.Upper.body0
   simp only [st]
   have hl : ((s.take s.length).map upC ++ s.drop s.length) = s.map upC := by simp
   rw [if_neg (by omega), hl]
 rw [hloop]
 rfl

/-! ### A verdict -/
def findI (c : api.Config) (token : List UInt8) : Int := match idxF (fun t : api.Tenant => decide (t.Token = token)) c.Tenants 0 with | some i => (i : Int) | none => -1
def isAuth (args : List (List UInt8)) : Bool := decide (args.length = 2) && decide ((ix args 0).map upC = [65, 85, 84, 72])
def verdM (c : api.Config) (args : List (List UInt8)) : Int × Int :=
 if isAuth args = true then (if findI c (ix args 1) < 0 then (-1, 3) else (findI c (ix args 1), 1)) else (-1, 2)

theorem verdict_eq (c : api.Config) (args : List (List UInt8)) (hc : c.Tenants.length < 9223372036854775807) (ha : 1 ≤ args.length) (ha2 : args.length ≤ 1000000000) (hl : (ix args 0).length ≤ 1000000000) : auth.verdict c args = some (verdM c args) := by
 unfold auth.verdict verdM
 rw [need_eq ⟨by omega, by omega⟩, Upper_eq _ hl]
 simp only [Option.bind_some]
 have e : (if (ix args 0).map upC = [65, 85, 84, 72] then some (!decide ((args.length : Int) = 2)) else some true) = some (!isAuth args) := by
  unfold isAuth
  by_cases h : (ix args 0).map upC = [65, 85, 84, 72]
  ·rw [if_pos h, decide_eq_true h]
   by_cases h2 : args.length = 2
   ·rw [decide_eq_true h2, decide_eq_true (by omega)]; rfl
   ·rw [decide_eq_false h2, decide_eq_false (by omega)]; rfl
  ·rw [if_neg h, decide_eq_false h, Bool.and_false]; rfl
 rw [e]
 simp only [Option.bind_some]
 cases h : isAuth args with
 | false => rfl
 | true =>
  have h2 : args.length = 2 := by
   unfold isAuth at h
   rw [Bool.and_eq_true, decide_eq_true_eq] at h
   exact h.1
  simp only [Bool.not_true, Bool.false_eq_true, if_false, if_true]
  rw [need_eq ⟨by omega, by omega⟩]
  unfold auth.Find
  rw [Find1_eq _ _ hc]
  simp only [Option.bind_some]
  show (if findI c (ix args 1) < 0 then some ((-1 : Int), (3 : Int)) else some (findI c (ix args 1), 1)) = _
  split <;> rfl

theorem verd_v (c : api.Config) (args : List (List UInt8)) : (verdM c args).2 ≠ 0 ∧ (verdM c args).2 ≠ 4 := by
 unfold verdM
 split
 ·split
  ·exact ⟨by decide, by decide⟩
  ·exact ⟨show (1 : Int) ≠ 0 by decide, show (1 : Int) ≠ 4 by decide⟩
 ·exact ⟨by decide, by decide⟩

end Go.Pu
