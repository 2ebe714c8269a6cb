/- Printed by lift.py: the functions come to them. -/
import Derived.Test.YtnlnolbgakfofaaLiftW
import Derived.Test.YtnlnolbgakfofaaCMK0
set_option maxRecDepth 100000
set_option maxHeartbeats 0
namespace Go.Pu
open Go.Lift Go.Proofs.Try Go.RowKit Go.Proofs

theorem mewslaw19.ChargeMore.ok {e : api.Entry} {s_ : List UInt8} {f : api.Field} {r : Bool} (h : mewslaw19.ChargeMore e s_ f = some r) : Go.Lift.Spec prog 4 [.agg (api.Entry.ct .no .no .no e), .str s_, .agg [.str f.Key, .str f.Val]] [] (fun v H => v = .bool r ∧ H = []) := by
 unfold mewslaw19.ChargeMore at h
 refine Go.Lift.Spec.of_body (rs := [.tmp 6]) func4 Z Z (nb Z) Z (xr (xc Z (op_box (cs := (api.Entry.ct .no .no .no e)) (v := .agg (api.Entry.ct .no .no .no e)) Z (tm Z) Z Z ?_)))
 intro p85
 refine xc Z (op_box (cs := [.str f.Key, .str f.Val]) (v := .agg [.str f.Key, .str f.Val]) Z (tm Z) Z Z ?_)
 intro p86
 refine xa (.bool false) Z (pu_assign Z (AEv.bool _)) (xe (aw_seq ?_))
 obtain ⟨s89, s89e, h90⟩ := bind_some h
 refine aw_meet (ν := Unit) (fun v => [(1, .str s_), (3, .ptr p85 0), (5, .ptr p86 0), (30, .bool s89)]) (fun v => [(p85, .cells (api.Entry.ct .no .no .no e)), (p86, .cells [.str f.Key, .str f.Val])]) ?_ ?_
 ·have h := s89e
  refine aw_region (xa (.ptr p85 1) Z (fa Z underlying28 Z sizeOf26 Z Z Z) (xc Z (op_loadN (i := 1) Z isAgg26 sizeOf26 (tm Z) Z (nb Z) Z (xc Z (op_buildSlice (xs := ([e.Val] : List api.Value).map api.Value.av) (aparts := [(0, .agg (api.Value.ct .no .no .no e.Val))]) Z underlying47 sizeOf26 zeroValue26 (by decide) (by decide) ⟨Z, (tm Z), trivial⟩ Z Z Z ?_)))))
  obtain ⟨r92, r92e, h⟩ := bind_some h
  refine xc Z (op_call (vs := [.sl .no 5 ([e.Val].map api.Value.av)]) (H := []) Z call6 ⟨(AEv.le (tm Z) (AV.Le.forget _ _ _)), trivial⟩ (List.Perm.refl _) (mewslaw19.Far.ok r92e) ?_)
  rintro _ _ ⟨rfl, rfl⟩
  refine xm Z Z Z ?_
  rcases Bool.eq_false_or_eq_true r92 with hb93 | hb93
  ·replace h := ite_t hb93 h
   refine aops_known 14 Z hb93 (xn Z Z Z (xn Z Z Z (xn Z Z Z (xn Z Z Z (xn Z Z Z (xn Z Z Z (xn Z Z Z (xn Z Z Z (xn Z Z Z ?_)))))))))
   refine xn Z Z Z (xn Z Z Z (xn Z Z Z (xn Z Z Z (xn Z Z Z (xn Z Z Z (xa (.bool true) Z (pu_pick (b := true) Z (tm Z) (fun _ => (AEv.bool _)) (fun h => nomatch h)) (xe ?_)))))))
   obtain rfl := some_of h
   exact ⟨(), Weak.mkL [1, 0] (by decide) ⟨⟨_, Z, cr, Z⟩, ⟨_, Z, cr, Z⟩, trivial⟩ ⟨tm Z, tm Z, tm Z, tm Z, trivial⟩⟩
  ·replace h := ite_fb hb93 h
   refine aops_known 14 Z hb93 (xp (.ptr p85 0) Z Z (fa Z underlying28 Z sizeOf9 Z Z Z) (xg Z Z (op_load1 (i := 1) Z isAgg9 (tm Z) Z Z (xp (.i (e.Key.length : Int)) Z Z (pu_strLen Z underlying9 (tm Z)) (xq Z Z Z Z (xp (.i (s_.length : Int)) Z Z (pu_strLen Z underlying9 (tm Z)) (xp (.i (IntKind.wrap .i64 ((e.Key.length : Int) + (s_.length : Int)))) Z Z (pu_int (v := .i (IntKind.wrap .i64 ((e.Key.length : Int) + (s_.length : Int)))) Z Z (tm Z) (tm Z) Z) (xp (.ptr p86 0) Z Z (fa Z underlying38 Z sizeOf9 Z Z Z) (xg Z Z (op_load1 (i := 0) Z isAgg9 (tm Z) Z Z (xp (.i (f.Key.length : Int)) Z Z (pu_strLen Z underlying9 (tm Z)) ?_)))))))))))
   refine xp (.i (IntKind.wrap .i64 ((IntKind.wrap .i64 ((e.Key.length : Int) + (s_.length : Int))) + (f.Key.length : Int)))) Z Z (pu_int (v := .i (IntKind.wrap .i64 ((IntKind.wrap .i64 ((e.Key.length : Int) + (s_.length : Int))) + (f.Key.length : Int)))) Z Z (tm Z) (tm Z) Z) (xp (.ptr p86 1) Z Z (fa Z underlying38 Z sizeOf9 Z Z Z) (xg Z Z (op_load1 (i := 0) Z isAgg9 (tm Z) Z Z (xp (.i (f.Val.length : Int)) Z Z (pu_strLen Z underlying9 (tm Z)) (xp (.i (IntKind.wrap .i64 ((IntKind.wrap .i64 ((IntKind.wrap .i64 ((e.Key.length : Int) + (s_.length : Int))) + (f.Key.length : Int))) + (f.Val.length : Int)))) Z Z (pu_int (v := .i (IntKind.wrap .i64 ((IntKind.wrap .i64 ((IntKind.wrap .i64 ((e.Key.length : Int) + (s_.length : Int))) + (f.Key.length : Int))) + (f.Val.length : Int)))) Z Z (tm Z) (tm Z) Z) (xp (.bool (decide (2000 < (IntKind.wrap .i64 ((IntKind.wrap .i64 ((IntKind.wrap .i64 ((e.Key.length : Int) + (s_.length : Int))) + (f.Key.length : Int))) + (f.Val.length : Int)))))) Z Z (pu_int (v := .bool (decide (2000 < (IntKind.wrap .i64 ((IntKind.wrap .i64 ((IntKind.wrap .i64 ((e.Key.length : Int) + (s_.length : Int))) + (f.Key.length : Int))) + (f.Val.length : Int)))))) Z Z (tm Z) (AEv.int _ _) Z) (xa (.bool (decide (2000 < (IntKind.wrap .i64 ((IntKind.wrap .i64 ((IntKind.wrap .i64 ((e.Key.length : Int) + (s_.length : Int))) + (f.Key.length : Int))) + (f.Val.length : Int)))))) Z (pu_pick (b := false) Z (tm Z) (fun h => nomatch h) (fun _ => (tm Z))) (xe ?_))))))))
   obtain rfl := some_of h
   exact ⟨(), Weak.mkL [1, 0] (by decide) ⟨⟨_, Z, cr, Z⟩, ⟨_, Z, cr, Z⟩, trivial⟩ ⟨tm Z, tm Z, tm Z, (AEv.le (tm Z) vr), trivial⟩⟩
 ·intro _
  have h := h90
  refine aw_cond (b := s89) (tm Z) (fun hb168 => ?_) (fun hb168 => ?_)
  ·replace h := ite_t hb168 h
   refine aw_seq (aw_region ?_)
   obtain ⟨r94, r94e, h⟩ := bind_some h
   refine xc Z (op_call (vs := []) (H := []) Z call7 trivial (List.Perm.refl _) (mewslaw19.alive.ok r94e) ?_)
   rintro _ _ ⟨rfl, rfl⟩
   refine xm Z Z Z (xe (aw_ret ?_))
   obtain rfl := some_of h
   exact ⟨[.bool r94], _, [], ⟨(tm Z), trivial⟩, vr, Weak.mkL [] (by decide) trivial trivial, ⟨Z, Z⟩⟩
  ·replace h := ite_fb hb168 h
   refine aw_skip (xr (xc Z (op_loadN (i := 0) Z isAgg28 sizeOf28 (tm Z) Z (nb Z) Z ?_)))
   obtain ⟨r95, r95e, h⟩ := bind_some h
   refine xc Z (op_call (vs := [.agg (api.Entry.ct .no .no .no e)]) (H := []) Z call12 ⟨(tm Z), trivial⟩ (List.Perm.refl _) (charge.Of.ok r95e) ?_)
   rintro _ _ ⟨rfl, rfl⟩
   refine xm Z Z Z (xe (xr (xc Z (op_loadN (i := 0) Z isAgg28 sizeOf28 (tm Z) Z (nb Z) Z (xc Z (op_alloc (cs := [.str ([] : List UInt8), .i 0, .str ([] : List UInt8), .sl .full 1 (([] : List (List UInt8)).map AV.str), .sl .full 2 (([] : List api.Field).map api.Field.av), .sl .full 2 (([] : List api.Scored).map api.Scored.av), .i 0]) (v := .agg [.str ([] : List UInt8), .i 0, .str ([] : List UInt8), .sl .full 1 (([] : List (List UInt8)).map AV.str), .sl .full 2 (([] : List api.Field).map api.Field.av), .sl .full 2 (([] : List api.Scored).map api.Scored.av), .i 0]) Z zeroValue28 Z Z Z ?_))))))
   intro p96
   refine ac0 Z Z (op_store (i := 0) (cs' := (api.Entry.ct .no .no .no e)) Z sizeOf28 (tm Z) (v := .agg (api.Entry.ct .no .no .no e)) (tm Z) Z Z Z (nb Z) Z (xe (xr (xa (.i 0) Z (pu_assign Z (AEv.int _ _)) (xe ?_)))))
   obtain ⟨s120, s120e, h121⟩ := bind_some h
   refine aw_meet (ν := Unit) (fun v => [(3, .ptr p85 0), (7, .i r95), (8, .ptr p96 0), (9, .i s120.1)]) (fun v => [(p85, .cells (api.Entry.ct .no .no .no e)), (p96, .cells (api.Entry.ct .no .no .no { e with Val := ({ Kind := e.Val.Kind, Text := s120.2.1, List_ := s120.2.2.1, Hash := s120.2.2.2.1, ZSet := s120.2.2.2.2 } : api.Value) }))]) ?_ ?_
   ·have h := s120e
    refine xr (xa (.ptr p85 1) Z (fa Z underlying28 Z sizeOf26 Z Z Z) (xa (.ptr p85 1) Z (fa Z underlying26 Z sizeOf3 Z Z Z) (xc Z (op_load1 (i := 1) Z isAgg3 (tm Z) Z Z (xe (aw_block (xr (xa (.bool (decide (e.Val.Kind = 1))) Z (pu_int (v := .bool (decide (e.Val.Kind = 1))) Z Z (tm Z) (AEv.int _ _) Z) ?_))))))))
    refine xm Z Z Z (xe (aw_cond (b := decide (e.Val.Kind = 1)) (tm Z) (fun hb145 => ?_) (fun hb145 => ?_)))
    ·replace h := ite_t (dec_t hb145) h
     refine xr (xa (.ptr p96 1) Z (fa Z underlying28 Z sizeOf26 Z Z Z) (xa (.ptr p96 2) Z (fa Z underlying26 Z sizeOf9 Z Z Z) (xc Z (op_load1 (i := 0) Z isAgg9 (tm Z) Z Z (xm Z Z Z ?_)))))
     obtain ⟨c123, h⟩ := need_of h
     refine xa (.str (e.Val.Text ++ s_)) Z (pu_strAdd Z (tm Z) (tm Z) c123) (xa (.ptr p96 1) Z (fa Z underlying28 Z sizeOf26 Z Z Z) (xa (.ptr p96 2) Z (fa Z underlying26 Z sizeOf9 Z Z Z) (ac0 Z Z (op_store (i := 0) (cs' := (api.Entry.ct .no .no .no { e with Val := { e.Val with Text := e.Val.Text ++ s_ } })) Z sizeOf9 (tm Z) (v := .str (e.Val.Text ++ s_)) (tm Z) Z Z Z (nb Z) Z (xe (aw_region (xm Z Z Z (xa (.i (s_.length : Int)) Z (pu_strLen Z underlying9 (tm Z)) (xm Z Z Z (xe ?_))))))))))
     obtain rfl := some_of h
     exact ⟨(), Weak.mkL [1, 0] (by decide) ⟨⟨_, Z, cr, Z⟩, ⟨_, Z, ⟨vr, vr, vr, vr, vr, vr, vr, trivial⟩, Z⟩, trivial⟩ ⟨tm Z, tm Z, tm Z, tm Z, trivial⟩⟩
    ·replace h := ite_f (dec_f hb145) h
     obtain ⟨s125, s125e, h126⟩ := letO_of h
     refine aw_meet (ν := Unit) (fun v => [(1, .str s_), (3, .ptr p85 0), (5, .ptr p86 0), (7, .i r95), (8, .ptr p96 0), (9, .i 0), (37, .i e.Val.Kind), (49, .bool s125)]) (fun v => [(p85, .cells (api.Entry.ct .no .no .no e)), (p86, .cells [.str f.Key, .str f.Val]), (p96, .cells (api.Entry.ct .no .no .no e))]) ?_ ?_
     ·have h := s125e.symm
      refine xr (xa (.bool (decide (e.Val.Kind = 2))) Z (pu_int (v := .bool (decide (e.Val.Kind = 2))) Z Z (tm Z) (AEv.int _ _) Z) (xm Z Z Z (xe (aw_cond (b := decide (e.Val.Kind = 2)) (tm Z) (fun hb128 => ?_) (fun hb128 => ?_)))))
      ·replace h := ite_t (dec_t hb128) h
       refine aw_skip ?_
       subst h
       exact ⟨(), Weak.mkL [1, 2, 0] (by decide) ⟨⟨_, Z, cr, Z⟩, ⟨_, Z, cr, Z⟩, ⟨_, Z, cr, Z⟩, trivial⟩ ⟨tm Z, tm Z, tm Z, tm Z, tm Z, tm Z, tm Z, (AEv.le (tm Z) vr), trivial⟩⟩
      ·replace h := ite_f (dec_f hb128) h
       refine aw_region (xa (.bool (decide (e.Val.Kind = 4))) Z (pu_int (v := .bool (decide (e.Val.Kind = 4))) Z Z (tm Z) (AEv.int _ _) Z) (xm Z Z Z (xe ?_)))
       subst h
       exact ⟨(), Weak.mkL [1, 2, 0] (by decide) ⟨⟨_, Z, cr, Z⟩, ⟨_, Z, cr, Z⟩, ⟨_, Z, cr, Z⟩, trivial⟩ ⟨tm Z, tm Z, tm Z, tm Z, tm Z, tm Z, tm Z, (AEv.le (tm Z) vr), trivial⟩⟩
     ·intro _
      have h := h126
      refine aw_cond (b := s125) (tm Z) (fun hb144 => ?_) (fun hb144 => ?_)
      ·replace h := ite_t hb144 h
       refine xr (xc Z (op_buildSlice (xs := (([] : List (List UInt8)) : List (List UInt8)).map AV.str) (aparts := []) Z underlying22 sizeOf9 zeroValue9 (by decide) (by decide) trivial Z Z Z (xa (.ptr p85 1) Z (fa Z underlying28 Z sizeOf26 Z Z Z) (xa (.ptr p85 3) Z (fa Z underlying26 Z sizeOf22 Z Z Z) (xc Z (op_load1 (i := 0) Z isAgg22 (tm Z) Z Z ?_))))))
       obtain ⟨c129, h⟩ := need_of h
       refine xc Z (op_appendFM Z underlying22 underlying22 (.inl Z) typeInfo9 Z Z Z (by decide) (tm Z) (given_sl (tm Z)) c129 ?_)
       intro t130
       refine xm Z Z Z (xc Z (op_buildSlice (xs := ([s_] : List (List UInt8)).map AV.str) (aparts := [(0, .str s_)]) Z underlying22 sizeOf9 zeroValue9 (by decide) (by decide) ⟨Z, (tm Z), trivial⟩ Z Z Z ?_))
       obtain ⟨c131, h⟩ := need_of h
       refine xc Z (op_appendOM (q := 0) Z underlying22 underlying22 (.inl Z) typeInfo9 Z Z Z (by decide) (tm Z) Z (given_sl (tm Z)) c131 ?_)
       intro t132
       refine xa (.ptr p96 1) Z (fa Z underlying28 Z sizeOf26 Z Z Z) (xa (.ptr p96 3) Z (fa Z underlying26 Z sizeOf22 Z Z Z) (ac0 Z Z (op_store (i := 3) (cs' := (api.Entry.ct (.own t132) .no .no { e with Val := { e.Val with List_ := (([] : List (List UInt8)) ++ e.Val.List_) ++ [s_] } })) Z sizeOf22 (tm Z) (v := .sl (.own t132) 1 (((([] : List (List UInt8)) ++ e.Val.List_) ++ [s_]).map AV.str)) (tm Z) Z Z Z (nb Z) Z (xe (xr (xm Z Z Z (xa (.i (s_.length : Int)) Z (pu_strLen Z underlying9 (tm Z)) (xa (.i (IntKind.wrap .i64 (16 + (s_.length : Int)))) Z (pu_int (v := .i (IntKind.wrap .i64 (16 + (s_.length : Int)))) Z Z (AEv.int _ _) (tm Z) Z) (xm Z Z Z ?_)))))))))
       refine xe (xr (xa (.ptr p85 1) Z (fa Z underlying28 Z sizeOf26 Z Z Z) (xa (.ptr p85 1) Z (fa Z underlying26 Z sizeOf3 Z Z Z) (xc Z (op_load1 (i := 1) Z isAgg3 (tm Z) Z Z (xa (.bool (decide (e.Val.Kind = 4))) Z (pu_int (v := .bool (decide (e.Val.Kind = 4))) Z Z (tm Z) (AEv.int _ _) Z) (xe (aw_cond (b := decide (e.Val.Kind = 4)) (tm Z) (fun hb133 => ?_) (fun hb133 => ?_)))))))))
       ·replace h := ite_t (dec_t hb133) h
        refine aw_region (xm Z Z Z (xa (.i (s_.length : Int)) Z (pu_strLen Z underlying9 (tm Z)) (xa (.i (IntKind.wrap .i64 (24 + (s_.length : Int)))) Z (pu_int (v := .i (IntKind.wrap .i64 (24 + (s_.length : Int)))) Z Z (AEv.int _ _) (tm Z) Z) (xm Z Z Z (xe ?_)))))
        obtain rfl := some_of h
        exact ⟨(), Weak.mkL [1, 3] (by decide) ⟨⟨_, Z, cr, Z⟩, ⟨_, Z, ⟨vr, vr, vr, (AV.Le.forget _ _ _), vr, vr, vr, trivial⟩, Z⟩, trivial⟩ ⟨tm Z, tm Z, tm Z, (AEv.le (tm Z) vr), trivial⟩⟩
       ·replace h := ite_f (dec_f hb133) h
        refine aw_skip ?_
        obtain rfl := some_of h
        exact ⟨(), Weak.mkL [1, 3] (by decide) ⟨⟨_, Z, cr, Z⟩, ⟨_, Z, ⟨vr, vr, vr, (AV.Le.forget _ _ _), vr, vr, vr, trivial⟩, Z⟩, trivial⟩ ⟨tm Z, tm Z, tm Z, (AEv.le (tm Z) vr), trivial⟩⟩
      ·replace h := ite_fb hb144 h
       refine xr (xa (.bool (decide (e.Val.Kind = 3))) Z (pu_int (v := .bool (decide (e.Val.Kind = 3))) Z Z (tm Z) (AEv.int _ _) Z) (xm Z Z Z (xe (aw_cond (b := decide (e.Val.Kind = 3)) (tm Z) (fun hb143 => ?_) (fun hb143 => ?_)))))
       ·replace h := ite_t (dec_t hb143) h
        refine aw_seq ?_
        obtain ⟨c134, h⟩ := need_of h
        obtain ⟨c136, h⟩ := need_of h
        refine aw_reserve fun p135 => (aw_reserve fun p137 => (aw_planR (by decide +kernel) [[], [], [], [(2, 0, false)], [(1, 0, true)], [(3, 0, false)], [], [(1, 1, true), (0, 0, true)], [], [], [(4, 0, true)]] [[7], [4, 7], [], [], [10]] [[[(p137, .resv)], [(p137, .spare)]], [[(p135, .resv)], [(p135, .spare)], []], [[(p85, .cells (api.Entry.ct .no .no .no e))]], [[(p86, .cells [.str f.Key, .str f.Val])]], [[(p96, .cells (api.Entry.ct .no .no .no e))], [(p96, .cells (api.Entry.ct .no (.own p137) .no { e with Val := { e.Val with Hash := (([] : List api.Field) ++ e.Val.Hash) ++ [f] } }))]]] [.sl .full 2 (([] : List api.Field).map api.Field.av), .ptr p85 1, .ptr p85 4, .sl .no 2 (e.Val.Hash.map api.Field.av), .sl (.own p135) 2 ((([] : List api.Field) ++ e.Val.Hash).map api.Field.av), .agg [.str f.Key, .str f.Val], .sl .full 2 ([f].map api.Field.av), .sl (.own p137) 2 (((([] : List api.Field) ++ e.Val.Hash) ++ [f]).map api.Field.av), .ptr p96 1, .ptr p96 4, .un] (by decide +kernel) Z Z ?_ ?_))
        ·exact ⟨stepg_plain Z (op_buildSlice (xs := (([] : List api.Field) : List api.Field).map api.Field.av) (aparts := []) Z underlying23 sizeOf38 zeroValue38 (by decide) (by decide) trivial Z Z Z ⟨Z, Z⟩), yp Z (fa Z underlying28 Z sizeOf26 Z Z Z), yp Z (fa Z underlying26 Z sizeOf23 Z Z Z), stepg_plain Z (op_load1 (i := 0) Z isAgg23 (tm Z) Z Z ⟨Z, Z⟩), stepg_plain Z (aop_settleS (op_appendFM Z underlying23 underlying23 (.inl Z) typeInfo38 Z Z Z (by decide) (tm Z) (given_sl (tm Z)) c134 fun t => ⟨t, Z, Z⟩) ⟨Z, Z⟩), stepg_plain Z (op_loadN (i := 0) Z isAgg38 sizeOf38 (tm Z) Z (nb Z) Z ⟨Z, Z⟩), stepg_plain Z (op_buildSlice (xs := ([f] : List api.Field).map api.Field.av) (aparts := [(0, .agg [.str f.Key, .str f.Val])]) Z underlying23 sizeOf38 zeroValue38 (by decide) (by decide) ⟨Z, (tm Z), trivial⟩ Z Z Z ⟨Z, Z⟩), stepg_plain Z (aop_settleS (op_appendOM (q := 0) Z underlying23 underlying23 (.inl Z) typeInfo38 Z Z Z (by decide) (tm Z) Z (given_sl (tm Z)) c136 fun t => ⟨t, Z, Z⟩) ⟨Z, Z⟩), yp Z (fa Z underlying28 Z sizeOf26 Z Z Z), yp Z (fa Z underlying26 Z sizeOf23 Z Z Z), stepg_plain Z (op_store (i := 0) (cs' := (api.Entry.ct .no (.own p137) .no { e with Val := { e.Val with Hash := (([] : List api.Field) ++ e.Val.Hash) ++ [f] } })) Z sizeOf23 (tm Z) (v := .sl (.own p137) 2 (((([] : List api.Field) ++ e.Val.Hash) ++ [f]).map api.Field.av)) (tm Z) Z Z Z (nb Z) Z ⟨Z, Z⟩), trivial⟩
        refine aw_region (xa (.ptr p86 0) Z (fa Z underlying38 Z sizeOf9 Z Z Z) (xc Z (op_load1 (i := 2) Z isAgg9 (tm Z) Z Z (xa (.i (f.Key.length : Int)) Z (pu_strLen Z underlying9 (tm Z)) (xa (.i (IntKind.wrap .i64 (32 + (f.Key.length : Int)))) Z (pu_int (v := .i (IntKind.wrap .i64 (32 + (f.Key.length : Int)))) Z Z (AEv.int _ _) (tm Z) Z) (xa (.ptr p86 1) Z (fa Z underlying38 Z sizeOf9 Z Z Z) (xc Z (op_load1 (i := 2) Z isAgg9 (tm Z) Z Z (xa (.i (f.Val.length : Int)) Z (pu_strLen Z underlying9 (tm Z)) (xa (.i (IntKind.wrap .i64 ((IntKind.wrap .i64 (32 + (f.Key.length : Int))) + (f.Val.length : Int)))) Z (pu_int (v := .i (IntKind.wrap .i64 ((IntKind.wrap .i64 (32 + (f.Key.length : Int))) + (f.Val.length : Int)))) Z Z (tm Z) (tm Z) Z) (xm Z Z Z ?_)))))))))))
        refine xe ?_
        obtain rfl := some_of h
        exact ⟨(), Weak.mkL [1, 3] (by decide) ⟨⟨_, Z, cr, Z⟩, ⟨_, Z, ⟨vr, vr, vr, vr, (AV.Le.forget _ _ _), vr, vr, trivial⟩, Z⟩, trivial⟩ ⟨tm Z, tm Z, tm Z, (AEv.le (tm Z) vr), trivial⟩⟩
       ·replace h := ite_f (dec_f hb143) h
        refine xr (xa (.bool (decide (e.Val.Kind = 5))) Z (pu_int (v := .bool (decide (e.Val.Kind = 5))) Z Z (tm Z) (AEv.int _ _) Z) (xm Z Z Z (xe (aw_cond (b := decide (e.Val.Kind = 5)) (tm Z) (fun hb142 => ?_) (fun hb142 => ?_)))))
        ·replace h := ite_t (dec_t hb142) h
         refine xr (xc Z (op_buildSlice (xs := (([] : List api.Scored) : List api.Scored).map api.Scored.av) (aparts := []) Z underlying24 sizeOf40 zeroValue40 (by decide) (by decide) trivial Z Z Z (xa (.ptr p85 1) Z (fa Z underlying28 Z sizeOf26 Z Z Z) (xa (.ptr p85 5) Z (fa Z underlying26 Z sizeOf24 Z Z Z) (xc Z (op_load1 (i := 0) Z isAgg24 (tm Z) Z Z ?_))))))
         obtain ⟨c138, h⟩ := need_of h
         refine xc Z (op_appendFM Z underlying24 underlying24 (.inl Z) typeInfo40 Z Z Z (by decide) (tm Z) (given_sl (tm Z)) c138 ?_)
         intro t139
         refine xm Z Z Z (xa (.agg [.str s_, .i 0]) Z (pu_build (zs := [.str ([] : List UInt8), .i 0]) (szs := [1, 1]) (aparts := [(0, .str s_)]) (cs := [.str s_, .i 0]) Z underlying40 zeroValue40 Z ⟨sizeOf9, sizeOf2, trivial⟩ ⟨Z, (tm Z), trivial⟩ Z) (xc Z (op_buildSlice (xs := ([({ Member := s_, Score := 0 } : api.Scored)] : List api.Scored).map api.Scored.av) (aparts := [(0, .agg [.str s_, .i 0])]) Z underlying24 sizeOf40 zeroValue40 (by decide) (by decide) ⟨Z, (tm Z), trivial⟩ Z Z Z ?_)))
         obtain ⟨c140, h⟩ := need_of h
         refine xc Z (op_appendOM (q := 0) Z underlying24 underlying24 (.inl Z) typeInfo40 Z Z Z (by decide) (tm Z) Z (given_sl (tm Z)) c140 ?_)
         intro t141
         refine xa (.ptr p96 1) Z (fa Z underlying28 Z sizeOf26 Z Z Z) (xa (.ptr p96 5) Z (fa Z underlying26 Z sizeOf24 Z Z Z) (ac0 Z Z (op_store (i := 3) (cs' := (api.Entry.ct .no .no (.own t141) { e with Val := { e.Val with ZSet := (([] : List api.Scored) ++ e.Val.ZSet) ++ [({ Member := s_, Score := 0 } : api.Scored)] } })) Z sizeOf24 (tm Z) (v := .sl (.own t141) 2 (((([] : List api.Scored) ++ e.Val.ZSet) ++ [({ Member := s_, Score := 0 } : api.Scored)]).map api.Scored.av)) (tm Z) Z Z Z (nb Z) Z (xe (aw_region (xm Z Z Z (xa (.i (s_.length : Int)) Z (pu_strLen Z underlying9 (tm Z)) (xa (.i (IntKind.wrap .i64 (40 + (s_.length : Int)))) Z (pu_int (v := .i (IntKind.wrap .i64 (40 + (s_.length : Int)))) Z Z (AEv.int _ _) (tm Z) Z) (xm Z Z Z (xe ?_))))))))))
         obtain rfl := some_of h
         exact ⟨(), Weak.mkL [1, 3] (by decide) ⟨⟨_, Z, cr, Z⟩, ⟨_, Z, ⟨vr, vr, vr, vr, vr, (AV.Le.forget _ _ _), vr, trivial⟩, Z⟩, trivial⟩ ⟨tm Z, tm Z, tm Z, (AEv.le (tm Z) vr), trivial⟩⟩
        ·replace h := ite_f (dec_f hb142) h
         refine aw_skip ?_
         obtain rfl := some_of h
         exact ⟨(), Weak.mkL [0, 2] (by decide) ⟨⟨_, Z, cr, Z⟩, ⟨_, Z, cr, Z⟩, trivial⟩ ⟨tm Z, tm Z, tm Z, tm Z, trivial⟩⟩
   ·intro _
    have h := h121
    refine aw_seq ?_
    obtain ⟨s148, s148e, h149⟩ := bind_some h
    refine aw_meet (ν := Unit) (fun v => [(3, .ptr p85 0), (7, .i r95), (8, .ptr p96 0), (117, .bool s148)]) (fun v => [(p85, .cells (api.Entry.ct .no .no .no e)), (p96, .cells (api.Entry.ct .no .no .no { e with Val := ({ Kind := e.Val.Kind, Text := s120.2.1, List_ := s120.2.2.1, Hash := s120.2.2.2.1, ZSet := s120.2.2.2.2 } : api.Value) }))]) ?_ ?_
    ·have h := s148e
     refine aw_region (xc Z (op_loadN (i := 1) Z isAgg28 sizeOf28 (tm Z) Z (nb Z) Z ?_))
     obtain ⟨r151, r151e, h⟩ := bind_some h
     refine xc Z (op_call (vs := [.agg (api.Entry.ct .no .no .no { e with Val := ({ Kind := e.Val.Kind, Text := s120.2.1, List_ := s120.2.2.1, Hash := s120.2.2.2.1, ZSet := s120.2.2.2.2 } : api.Value) })]) (H := []) Z call12 ⟨(tm Z), trivial⟩ (List.Perm.refl _) (charge.Of.ok r151e) ?_)
     rintro _ _ ⟨rfl, rfl⟩
     refine xm Z Z Z (xm Z Z Z (xa (.i (IntKind.wrap .i64 (r95 + s120.1))) Z (pu_int (v := .i (IntKind.wrap .i64 (r95 + s120.1))) Z Z (tm Z) (tm Z) Z) (xa (.bool (!decide (r151 = (IntKind.wrap .i64 (r95 + s120.1))))) Z (pu_int (v := .bool (!decide (r151 = (IntKind.wrap .i64 (r95 + s120.1))))) Z Z (tm Z) (tm Z) Z) (xm Z Z Z ?_))))
     rcases Bool.eq_false_or_eq_true (!decide (r151 = (IntKind.wrap .i64 (r95 + s120.1)))) with hb152 | hb152
     ·replace h := ite_f (ndec_t hb152) h
      refine aops_known 114 Z hb152 (xn Z Z Z (xn Z Z Z (xa (.bool true) Z (pu_pick (b := true) Z (tm Z) (fun _ => (AEv.bool _)) (fun h => nomatch h)) (xe ?_))))
      obtain rfl := some_of h
      exact ⟨(), Weak.mkL [0, 1] (by decide) ⟨⟨_, Z, cr, Z⟩, ⟨_, Z, cr, Z⟩, trivial⟩ ⟨tm Z, tm Z, tm Z, tm Z, trivial⟩⟩
     ·replace h := ite_t (ndec_f hb152) h
      refine aops_known 114 Z hb152 (xq Z Z Z Z (xp (.bool (decide (r95 < 56))) Z Z (pu_int (v := .bool (decide (r95 < 56))) Z Z (tm Z) (AEv.int _ _) Z) (xa (.bool (decide (r95 < 56))) Z (pu_pick (b := false) Z (tm Z) (fun h => nomatch h) (fun _ => (tm Z))) (xe ?_))))
      obtain rfl := some_of h
      exact ⟨(), Weak.mkL [0, 1] (by decide) ⟨⟨_, Z, cr, Z⟩, ⟨_, Z, cr, Z⟩, trivial⟩ ⟨tm Z, tm Z, tm Z, (AEv.le (tm Z) vr), trivial⟩⟩
    ·intro _
     have h := h149
     refine aw_cond (b := s148) (tm Z) (fun hb167 => ?_) (fun hb167 => ?_)
     ·replace h := ite_t hb167 h
      refine xr (xa (.bool false) Z (pu_assign Z (AEv.bool _)) (xe (aw_ret ?_)))
      obtain rfl := some_of h
      exact ⟨[.bool false], _, [], ⟨(tm Z), trivial⟩, vr, Weak.mkL [] (by decide) trivial trivial, ⟨Z, Z⟩⟩
     ·replace h := ite_fb hb167 h
      refine aw_skip (xr (xc Z (op_loadN (i := 0) Z isAgg28 sizeOf28 (tm Z) Z (nb Z) Z (ac0 Z Z (op_store (i := 1) (cs' := (api.Entry.ct .no .no .no e)) Z sizeOf28 (tm Z) (v := .agg (api.Entry.ct .no .no .no e)) (tm Z) Z Z Z (nb Z) Z (xe (xr (xa (.ptr p96 6) Z (fa Z underlying28 Z sizeOf2 Z Z Z) (ac0 Z Z (op_store (i := 1) (cs' := (api.Entry.ct .no .no .no { e with At := 0 })) Z sizeOf2 (tm Z) (v := .i 0) (AEv.int _ _) Z Z Z (nb Z) Z ?_))))))))))
      refine xe ?_
      obtain ⟨s154, s154e, h155⟩ := letO_of h
      refine aw_meet (ν := Unit) (fun v => [(7, .i s154), (8, .ptr p96 0)]) (fun v => [(p96, .cells (api.Entry.ct .no .no .no { e with At := 0 }))]) ?_ ?_
      ·have h := s154e.symm
       refine xr (xa (.ptr p85 6) Z (fa Z underlying28 Z sizeOf2 Z Z Z) (xc Z (op_load1 (i := 0) Z isAgg2 (tm Z) Z Z (xa (.bool (!decide (e.At = 0))) Z (pu_int (v := .bool (!decide (e.At = 0))) Z Z (tm Z) (AEv.int _ _) Z) (xe (aw_cond (b := (!decide (e.At = 0))) (tm Z) (fun hb157 => ?_) (fun hb157 => ?_)))))))
       ·replace h := ite_f (ndec_t hb157) h
        refine aw_region (xm Z Z Z (xa (.i (IntKind.wrap .i64 (r95 - 16))) Z (pu_int (v := .i (IntKind.wrap .i64 (r95 - 16))) Z Z (tm Z) (AEv.int _ _) Z) (xm Z Z Z (xe ?_))))
        subst h
        exact ⟨(), Weak.mkL [1] (by decide) ⟨⟨_, Z, cr, Z⟩, trivial⟩ ⟨(AEv.le (tm Z) vr), tm Z, trivial⟩⟩
       ·replace h := ite_t (ndec_f hb157) h
        refine aw_skip ?_
        subst h
        exact ⟨(), Weak.mkL [1] (by decide) ⟨⟨_, Z, cr, Z⟩, trivial⟩ ⟨tm Z, tm Z, trivial⟩⟩
      ·intro _
       have h := h155
       obtain ⟨s161, s161e, h162⟩ := bind_some h
       refine aw_meet (ν := Unit) (fun v => [(6, .bool s161)]) (fun v => []) ?_ ?_
       ·have h := s161e
        refine aw_region (xm Z Z Z (xc Z (op_loadN (i := 0) Z isAgg28 sizeOf28 (tm Z) Z (nb Z) Z ?_)))
        obtain ⟨r164, r164e, h⟩ := bind_some h
        refine xc Z (op_call (vs := [.agg (api.Entry.ct .no .no .no { e with At := 0 })]) (H := []) Z call12 ⟨(tm Z), trivial⟩ (List.Perm.refl _) (charge.Of.ok r164e) ?_)
        rintro _ _ ⟨rfl, rfl⟩
        refine xa (.bool (decide (s154 = r164))) Z (pu_int (v := .bool (decide (s154 = r164))) Z Z (tm Z) (tm Z) Z) (xm Z Z Z ?_)
        rcases Bool.eq_false_or_eq_true (decide (s154 = r164)) with hb165 | hb165
        ·replace h := ite_t (dec_t hb165) h
         refine aops_known 129 Z hb165 ?_
         obtain ⟨r166, r166e, h⟩ := bind_some h
         refine xg Z Z (op_call (vs := []) (H := []) Z call7 trivial (List.Perm.refl _) (mewslaw19.alive.ok r166e) ?_)
         rintro _ _ ⟨rfl, rfl⟩
         refine xa (.bool r166) Z (pu_pick (b := true) Z (tm Z) (fun _ => (tm Z)) (fun h => nomatch h)) (xm Z Z Z (xe ?_))
         obtain rfl := some_of h
         exact ⟨(), Weak.mkL [] (by decide) trivial ⟨tm Z, trivial⟩⟩
        ·replace h := ite_f (dec_f hb165) h
         refine aops_known 129 Z hb165 (xn Z Z Z (xa (.bool false) Z (pu_pick (b := false) Z (tm Z) (fun h => nomatch h) (fun _ => (AEv.bool _))) (xm Z Z Z (xe ?_))))
         obtain rfl := some_of h
         exact ⟨(), Weak.mkL [] (by decide) trivial ⟨tm Z, trivial⟩⟩
       ·intro _
        have h := h162
        refine aw_ret ?_
        obtain rfl := some_of h
        exact ⟨[.bool s161], _, [], ⟨(tm Z), trivial⟩, vr, Weak.mkL [] (by decide) trivial trivial, ⟨Z, Z⟩⟩

end Go.Pu
