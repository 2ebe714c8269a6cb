/- The pure law ParseBack. -/
import Derived.Test.YtfapgollkabopaaPBPuText
import Derived.Test.YtfapgollkabopaaPBPuMass
import Derived.Test.YtfapgollkabopaaPBPuParse4
set_option maxRecDepth 100000
namespace Go.Pu
open Go.Lift

theorem Back_loop (args : List (List UInt8)) (lim : api.Limits) (b0 : Bool) (hl : args.length ≤ 100) :
  mewslaw05.ParseBack.loop0 args lim ⟨b0, 0⟩ = some (b0 && args.all fun x => decide ((x.length : Int) ≤ lim.Bulk)) := by
 unfold mewslaw05.ParseBack.loop0
 refine whileO_knownE _ (fun i => (⟨b0 && (args.take i).all fun x => decide ((x.length : Int) ≤ lim.Bulk), (i : Int)⟩ : mewslaw05.ParseBack.S0)) args.length (fun i hi => ?_) ?_ (by simp)
 ·unfold mewslaw05.ParseBack.body0
  simp only
  rw [if_pos (by omega), need_eq ⟨by omega, by omega⟩, ix_get hi, i64w (by omega) (by omega), List.take_add_one, List.getElem?_eq_getElem hi]
  simp only [Option.toList_some, List.all_append, List.all_cons, List.all_nil, Bool.and_true]
  cases h : (b0 && (args.take i).all fun x => decide ((x.length : Int) ≤ lim.Bulk)) with
  | true =>
   have h2 := h
   rw [Bool.and_eq_true] at h2
   simp [h2.1, h2.2]
  | false =>
   have : (b0 && ((args.take i).all (fun x => decide ((x.length : Int) ≤ lim.Bulk)) && decide ((args[i].length : Int) ≤ lim.Bulk))) = false := by
    rw [← Bool.and_assoc, h]; rfl
   rw [this]
   simp
 ·unfold mewslaw05.ParseBack.body0
  simp only
  rw [if_neg (by omega), List.take_length]

theorem ParseBack_pure (args : List (List UInt8)) (l : api.Limits) (at_ : Int) (hl : args.length < 1000000000000000) : mewslaw05.ParseBack args l at_ = some true := by
 unfold mewslaw05.ParseBack
 obtain ⟨b, hf, hf2⟩ := far05_eq args hl
 rw [hf, alive05]
 simp only [Option.bind_some]
 cases b with
 | true => rfl
 | false =>
  obtain ⟨f1, f2⟩ := hf2 rfl
  have hpl := putM_len _ f2 f1
  have hp1 : 1 ≤ (putM args).length := by simp [putM]
  rw [if_neg (by simp), Put_eq _ (by omega) (by omega), rPut5_eq _ f2 f1]
  simp only [Option.bind_some, if_true]
  rw [rLimits_eq]
  simp only [Option.bind_some]
  rw [Back_loop _ _ _ f1]
  simp only [Option.bind_some]
  have hinv := start_inv (putM args) l (by omega)
  have hst : startP emptyIn (putM args) l = freshP (putM args ++ []) (limM l) [] := by rw [List.append_nil]; rfl
  rw [show ({ Rest := ([] : List UInt8), Args := ([] : List (List UInt8)), Left := 0, Size := 0, Body := false, Need := 0, Dead := 0 } : api.Input) = emptyIn from rfl]
  rw [Feed_eq emptyIn _ l rfl hinv]
  simp only [Option.bind_some, feedM]
  rw [hst] at hinv ⊢
  rcases run_putB (limM l) (limM_good l) [] [] args hinv with ⟨h1, h2, h3, h4⟩ | ⟨e, h1, h2, h3⟩
  ·have hright : (decide ((args.length : Int) ≤ (limM l).Args) && args.all fun x => decide ((x.length : Int) ≤ (limM l).Bulk)) = true := by
    rw [Bool.and_eq_true]
    refine ⟨decide_eq_true h1, ?_⟩
    rw [List.all_eq_true]
    exact fun x hx => decide_eq_true (h4 x hx)
   rw [hright]
   simp only [Bool.not_true, Bool.false_eq_true, if_false]
   rw [h2, runP_stop (by rfl)]
   have hstop : (stepP (freshP [] (limM l) (if args = [] then [] else [] ++ [({ Args := args, Size := ((putM args).length : Int) } : api.Request)]))).2 = freshP [] (limM l) (if args = [] then [] else [] ++ [({ Args := args, Size := ((putM args).length : Int) } : api.Request)]) := rfl
   rw [hstop]
   rw [if_pos (by rfl)]
   have hidle : parse.Idle ({ (freshP [] (limM l) (if args = [] then [] else [] ++ [({ Args := args, Size := ((putM args).length : Int) } : api.Request)])).in_ with Rest := (freshP [] (limM l) (if args = [] then [] else [] ++ [({ Args := args, Size := ((putM args).length : Int) } : api.Request)])).s }) = some true := rfl
   rw [hidle]
   simp only [Option.bind_some, Bool.not_true, Bool.false_eq_true, if_false]
   have hcut : ((need (¬ (IntKind.wrap .u64 ((putM args).length : Int)) = 0) <|
     need (InR 0 (IntKind.wrap .i64 ((IntKind.wrap .u64 at_).tmod (IntKind.wrap .u64 ((putM args).length : Int)))) (putM args).length) <|
     letO (sub (putM args) 0 (IntKind.wrap .i64 ((IntKind.wrap .u64 at_).tmod (IntKind.wrap .u64 ((putM args).length : Int))))) fun x229 =>
     (parse.Feed emptyIn x229 l).bind fun r230 =>
     (
      if (r230.2.1.length : Int) = 0 then
       if r230.2.2 = 0 then
        if r230.1.Dead = 0 then
         some true
        else
         some false
       else
        some false
      else
       some false).bind fun s236 =>
     some s236) : Option Bool) = some true := by
    rw [u64w (n := ((putM args).length : Int)) (by omega) (by omega)]
    have hr0 : 0 ≤ IntKind.wrap .u64 at_ := by simp [IntKind.wrap, IntKind.bits, IntKind.signed]; omega
    obtain ⟨k, hk⟩ := Int.eq_ofNat_of_zero_le hr0
    rw [hk]
    have hmod : ((k : Nat) : Int).tmod ((putM args).length : Int) = ((k % (putM args).length : Nat) : Int) := rfl
    have hlt : k % (putM args).length < (putM args).length := Nat.mod_lt _ (by omega)
    rw [hmod, i64w (by omega) (by omega), need_eq (by omega), need_eq ⟨by omega, by omega, by omega⟩]
    unfold letO
    rw [sub_zero, Int.toNat_natCast]
    show (parse.Feed emptyIn _ l).bind _ = _
    have hi2 := start_inv ((putM args).take (k % (putM args).length)) l (by simp; omega)
    rw [Feed_eq emptyIn _ l rfl hi2]
    obtain ⟨c1, c2⟩ := cut_put args l (k % (putM args).length) hlt (by omega) ⟨h1, h4⟩
    simp only [Option.bind_some, feedM]
    rw [c1, c2]
    rfl
   have hlenA : ∀ (A B : Option Bool), (if (args.length : Int) = 0 then A else B) = (if args = [] then A else B) := fun A B => by
    by_cases ha : args = []
    ·rw [if_pos ha, if_pos (by rw [ha]; rfl)]
    ·have : args.length ≠ 0 := fun h => ha (List.length_eq_zero_iff.1 h)
     rw [if_neg ha, if_neg (by omega)]
   rw [hlenA]
   by_cases ha : args = []
   ·rw [if_pos ha, if_pos ha]
    rw [if_neg (by simp [freshP]), if_neg (by rw [ha]; simp)]
    simp only [Option.bind_some, Bool.false_eq_true, if_false]
    exact hcut
   ·have : args.length ≠ 0 := fun h => ha (List.length_eq_zero_iff.1 h)
    rw [if_neg ha, if_neg ha, if_pos (by omega)]
    have hsame : mewsref05.Same (freshP [] (limM l) ([] ++ [({ Args := args, Size := ((putM args).length : Int) } : api.Request)])).out [({ Args := args, Size := ((putM args).length : Int) } : api.Request)] = some true := by
     refine Same5_self [({ Args := args, Size := ((putM args).length : Int) } : api.Request)] (by simp) ?_
     intro r hr
     rw [List.mem_singleton] at hr
     subst hr
     show args.length ≤ _
     omega
    rw [hsame]
    simp only [Option.bind_some, Bool.not_true, Bool.false_eq_true, if_false]
    exact hcut
  ·have hright : (decide ((args.length : Int) ≤ (limM l).Args) && args.all fun x => decide ((x.length : Int) ≤ (limM l).Bulk)) = false := by
    rcases h3 with h3 | ⟨x, hx, h3⟩
    ·rw [decide_eq_false (by omega)]; rfl
    ·rw [Bool.and_eq_false_iff]
     right
     rw [List.all_eq_false]
     exact ⟨x, hx, by rw [decide_eq_false (by omega)]; simp⟩
   rw [hright, h2]
   simp only [Bool.not_false, if_true]
   rw [if_neg (by show ¬ e = 0; omega), if_pos (by rfl)]
   rfl

end Go.Pu

namespace Go.Pu.Pure
open Go.Lift Go.Pu
theorem ParseBack {a0 : List (List UInt8)} {a1 : api.Limits} {a2 : Int} (h0 : a0.length * 16 ≤ 140737488351232 ∧ ∀ y0, y0 ∈ a0 → y0.length ≤ 140737488351232) (h1 : api.Limits.wf a1) (h2 : (Lit.int .i64 a2).wf = true) : mewslaw05.ParseBack a0 a1 a2 = some true :=
 ParseBack_pure a0 a1 a2 (by omega)
end Go.Pu.Pure
