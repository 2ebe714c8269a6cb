/- Printed by lift.py: the functions come to them. -/
import Derived.Test.YtfapgollkabopaaLiftW
import Derived.Test.YtfapgollkabopaaPBK1
set_option maxRecDepth 100000
set_option maxHeartbeats 0
namespace Go.Pu
open Go.Lift Go.Proofs.Try Go.RowKit Go.Proofs

theorem mewslaw05.ParseBack.ok {args : List (List UInt8)} {l : api.Limits} {at_ : Int} {r : Bool} (h : mewslaw05.ParseBack args l at_ = some r) : Go.Lift.Spec prog 6 [.sl .no 1 (args.map AV.str), .agg [.i l.Args, .i l.Bulk, .i l.Line], .i at_] [] (fun v H => v = .bool r ∧ H = []) := by
 unfold mewslaw05.ParseBack at h
 refine Go.Lift.Spec.of_body (rs := [.tmp 6]) func6 Z Z (nb Z) Z (xr (xc Z (op_box (cs := [.i l.Args, .i l.Bulk, .i l.Line]) (v := .agg [.i l.Args, .i l.Bulk, .i l.Line]) Z (tm Z) Z Z ?_)))
 intro p124
 refine xa (.bool false) Z (pu_assign Z (AEv.bool _)) (xe (aw_seq (xr (xm Z Z Z ?_))))
 obtain ⟨r125, r125e, h⟩ := bind_some h
 refine xc Z (op_call (vs := [.sl .no 1 (args.map AV.str)]) (H := []) Z call13 ⟨(tm Z), trivial⟩ (List.Perm.refl _) (mewslaw05.far.ok r125e) ?_)
 rintro _ _ ⟨rfl, rfl⟩
 refine xe (aw_cond (b := r125) (tm Z) (fun hb246 => ?_) (fun hb246 => ?_))
 ·replace h := ite_t hb246 h
  refine aw_seq (aw_region ?_)
  obtain ⟨r126, r126e, h⟩ := bind_some h
  refine xc Z (op_call (vs := []) (H := []) Z call14 trivial (List.Perm.refl _) (mewslaw05.alive.ok r126e) ?_)
  rintro _ _ ⟨rfl, rfl⟩
  refine xm Z Z Z (xe (aw_ret ?_))
  obtain rfl := some_of h
  exact ⟨[.bool r126], _, [], ⟨(tm Z), trivial⟩, vr, Weak.mkL [] (by decide) trivial trivial, ⟨Z, Z⟩⟩
 ·replace h := ite_fb hb246 h
  refine aw_skip (xr (xm Z Z Z ?_))
  obtain ⟨r127, r127e, h⟩ := bind_some h
  refine xc Z (op_call (vs := [.sl .no 1 (args.map AV.str)]) (H := []) Z call23 ⟨(tm Z), trivial⟩ (List.Perm.refl _) (parse.Put.ok r127e) ?_)
  rintro _ _ ⟨rfl, rfl⟩
  refine xm Z Z Z (xe (aw_seq (xr (xm Z Z Z (xm Z Z Z ?_)))))
  obtain ⟨r128, r128e, h⟩ := bind_some h
  refine xc Z (op_call (vs := [.sl .no 1 (args.map AV.str)]) (H := []) Z call22 ⟨(tm Z), trivial⟩ (List.Perm.refl _) (mewsref05.Put.ok r128e) ?_)
  rintro _ _ ⟨rfl, rfl⟩
  refine xa (.bool (!decide (r127 = r128))) Z (pu_str (v := .bool (!decide (r127 = r128))) Z Z (tm Z) (tm Z) Z) (xe (aw_cond (b := (!decide (r127 = r128))) (tm Z) (fun hb245 => ?_) (fun hb245 => ?_)))
  ·replace h := ite_f (ndec_t hb245) h
   refine xr (xa (.bool false) Z (pu_assign Z (AEv.bool _)) (xe (aw_ret ?_)))
   obtain rfl := some_of h
   exact ⟨[.bool false], _, [], ⟨(tm Z), trivial⟩, vr, Weak.mkL [] (by decide) trivial trivial, ⟨Z, Z⟩⟩
  ·replace h := ite_t (ndec_f hb245) h
   refine aw_skip (xr (xc Z (op_loadN (i := 0) Z isAgg23 sizeOf23 (tm Z) Z (nb Z) Z ?_)))
   obtain ⟨r129, r129e, h⟩ := bind_some h
   refine xc Z (op_call (vs := [.agg [.i l.Args, .i l.Bulk, .i l.Line]]) (H := []) Z call20 ⟨(tm Z), trivial⟩ (List.Perm.refl _) (mewsref05.Limits.ok r129e) ?_)
   rintro _ _ ⟨rfl, rfl⟩
   refine xc Z (op_alloc (cs := [.i 0, .i 0, .i 0]) (v := .agg [.i 0, .i 0, .i 0]) Z zeroValue23 Z Z Z ?_)
   intro p130
   refine ac0 Z Z (op_store (i := 0) (cs' := [.i r129.Args, .i r129.Bulk, .i r129.Line]) Z sizeOf23 (tm Z) (v := .agg [.i r129.Args, .i r129.Bulk, .i r129.Line]) (tm Z) Z Z Z (nb Z) Z (xe (xr (xm Z Z Z (xa (.i (args.length : Int)) Z (pu_lenM Z underlying26 (tm Z)) (xa (.ptr p130 0) Z (fa Z underlying23 Z sizeOf3 Z Z Z) (xc Z (op_load1 (i := 0) Z isAgg3 (tm Z) Z Z (xa (.bool (decide ((args.length : Int) ≤ r129.Args))) Z (pu_int (v := .bool (decide ((args.length : Int) ≤ r129.Args))) Z Z (tm Z) (tm Z) Z) (xm Z Z Z ?_))))))))))
   refine xe ?_
   obtain ⟨s161, s161e, h162⟩ := bind_some h
   refine aw_meet (ν := Unit) (fun v => [(0, .sl .no 1 (args.map AV.str)), (2, .i at_), (4, .ptr p124 0), (7, .str r127), (9, .bool s161)]) (fun v => [(p124, .cells [.i l.Args, .i l.Bulk, .i l.Line])]) ?_ ?_
   ·have h := s161e
    refine xr (xm Z Z Z (xa (.i (args.length : Int)) Z (pu_lenM Z underlying26 (tm Z)) (xa (.i 0) Z (pu_move Z (AEv.int _ _)) (xe (aw_block (aw_while (σ := mewslaw05.ParseBack.S0) (ν := Unit) (mewslaw05.ParseBack.body0 args r129) (fun s182 v => [(0, .sl .no 1 (args.map AV.str)), (2, .i at_), (4, .ptr p124 0), (7, .str r127), (8, .ptr p130 0), (9, .bool s182.right_), (34, .sl .no 1 (args.map AV.str)), (35, .i (args.length : Int)), (36, .i s182.t36)]) (fun s182 v => [(p124, .cells [.i l.Args, .i l.Bulk, .i l.Line]), (p130, .cells [.i r129.Args, .i r129.Bulk, .i r129.Line])]) ⟨decide ((args.length : Int) ≤ r129.Args), 0⟩ () _ h (Weak.mkL [1, 0] (by decide) ⟨⟨_, Z, cr, Z⟩, ⟨_, Z, cr, Z⟩, trivial⟩ ⟨tm Z, tm Z, tm Z, tm Z, tm Z, (AEv.le (tm Z) vr), tm Z, tm Z, tm Z, trivial⟩) ?_))))))
    rintro s182 _ x184 h hx183
    unfold mewslaw05.ParseBack.body0 at h
    refine xr (xa (.bool (decide (s182.t36 < (args.length : Int)))) Z (pu_int (v := .bool (decide (s182.t36 < (args.length : Int)))) Z Z (tm Z) (tm Z) Z) (xe (aw_seq (aw_cond (b := decide (s182.t36 < (args.length : Int))) (tm Z) (fun hb193 => ?_) (fun hb193 => ?_)))))
    ·replace h := ite_t (dec_t hb193) h
     refine aw_skip ?_
     obtain ⟨s188, s188e, h189⟩ := bind_some h
     refine aw_meet (ν := Unit) (fun v => [(0, .sl .no 1 (args.map AV.str)), (2, .i at_), (4, .ptr p124 0), (7, .str r127), (8, .ptr p130 0), (9, .bool s188), (34, .sl .no 1 (args.map AV.str)), (35, .i (args.length : Int)), (36, .i s182.t36)]) (fun v => [(p124, .cells [.i l.Args, .i l.Bulk, .i l.Line]), (p130, .cells [.i r129.Args, .i r129.Bulk, .i r129.Line])]) ?_ ?_
     ·have h := s188e
      refine aw_block (aw_seq (aw_region ?_))
      obtain ⟨c191, h⟩ := need_of h
      refine xa (.vptr [.str (ix args s182.t36)]) Z (pu_indexAddrM Z underlying26 sizeOf9 (tm Z) (tm Z) c191 Z) (xc Z (op_loadV1 Z isAgg9 (tm Z) Z (xm Z Z Z (xe (aw_region (xm Z Z Z (xm Z Z Z ?_)))))))
      rcases Bool.eq_false_or_eq_true s182.right_ with hb192 | hb192
      ·replace h := ite_t hb192 h
       refine aops_known 41 Z hb192 (xq Z Z Z Z (xp (.i ((ix args s182.t36).length : Int)) Z Z (pu_strLen Z underlying9 (tm Z)) (xp (.ptr p130 1) Z Z (fa Z underlying23 Z sizeOf3 Z Z Z) (xg Z Z (op_load1 (i := 1) Z isAgg3 (tm Z) Z Z (xp (.bool (decide (((ix args s182.t36).length : Int) ≤ r129.Bulk))) Z Z (pu_int (v := .bool (decide (((ix args s182.t36).length : Int) ≤ r129.Bulk))) Z Z (tm Z) (tm Z) Z) (xa (.bool (decide (((ix args s182.t36).length : Int) ≤ r129.Bulk))) Z (pu_pick (b := true) Z (tm Z) (fun _ => (tm Z)) (fun h => nomatch h)) (xm Z Z Z (xe ?_)))))))))
       obtain rfl := some_of h
       exact ⟨(), Weak.mkL [0, 1] (by decide) ⟨⟨_, Z, cr, Z⟩, ⟨_, Z, cr, Z⟩, trivial⟩ ⟨tm Z, tm Z, tm Z, tm Z, tm Z, (AEv.le (tm Z) vr), tm Z, tm Z, tm Z, trivial⟩⟩
      ·replace h := ite_fb hb192 h
       refine aops_known 41 Z hb192 (xn Z Z Z (xn Z Z Z (xn Z Z Z (xn Z Z Z (xn Z Z Z (xa (.bool false) Z (pu_pick (b := false) Z (tm Z) (fun h => nomatch h) (fun _ => (AEv.bool _))) (xm Z Z Z (xe ?_))))))))
       obtain rfl := some_of h
       exact ⟨(), Weak.mkL [0, 1] (by decide) ⟨⟨_, Z, cr, Z⟩, ⟨_, Z, cr, Z⟩, trivial⟩ ⟨tm Z, tm Z, tm Z, tm Z, tm Z, tm Z, tm Z, tm Z, tm Z, trivial⟩⟩
     ·intro _
      have h := h189
      refine aw_region (xa (.i (IntKind.wrap .i64 (s182.t36 + 1))) Z (pu_int (v := .i (IntKind.wrap .i64 (s182.t36 + 1))) Z Z (tm Z) (AEv.int _ _) Z) (xm Z Z Z (xe ?_)))
      obtain rfl := some_of h
      exact ⟨_, (), Z, Weak.mkL [0, 1] (by decide) ⟨⟨_, Z, cr, Z⟩, ⟨_, Z, cr, Z⟩, trivial⟩ ⟨tm Z, tm Z, tm Z, tm Z, tm Z, tm Z, tm Z, tm Z, (AEv.le (tm Z) vr), trivial⟩⟩
    ·replace h := ite_f (dec_f hb193) h
     refine aw_exit ?_
     obtain rfl := some_of h
     have h := congrArg some (hx183 _ rfl)
     obtain rfl := some_of h
     exact ⟨(), Weak.mkL [0] (by decide) ⟨⟨_, Z, cr, Z⟩, trivial⟩ ⟨tm Z, tm Z, tm Z, tm Z, tm Z, trivial⟩⟩
   ·intro _
    have h := h162
    refine xr (xa (.agg [.str ([] : List UInt8), .sl .full 1 (([] : List (List UInt8)).map AV.str), .i 0, .i 0, .bool false, .i 0, .i 0]) Z (pu_build (zs := [.str ([] : List UInt8), .sl .full 1 (([] : List (List UInt8)).map AV.str), .i 0, .i 0, .bool false, .i 0, .i 0]) (szs := [1, 1, 1, 1, 1, 1, 1]) (aparts := []) (cs := [.str ([] : List UInt8), .sl .full 1 (([] : List (List UInt8)).map AV.str), .i 0, .i 0, .bool false, .i 0, .i 0]) Z underlying29 zeroValue29 Z ⟨sizeOf9, sizeOf26, sizeOf3, sizeOf3, sizeOf4, sizeOf3, sizeOf27, trivial⟩ trivial Z) (xm Z Z Z (xc Z (op_loadN (i := 0) Z isAgg23 sizeOf23 (tm Z) Z (nb Z) Z ?_))))
    obtain ⟨r194, r194e, h⟩ := bind_some h
    refine xc Z (op_call (vs := [.agg [.str ([] : List UInt8), .sl .no 1 (([] : List (List UInt8)).map AV.str), .i 0, .i 0, .bool false, .i 0, .i 0], .str r127, .agg [.i l.Args, .i l.Bulk, .i l.Line]]) (H := []) Z call15 ⟨(AEv.le (tm Z) (AV.Le.agg ⟨vr, (AV.Le.forget _ _ _), vr, vr, vr, vr, vr, trivial⟩)), (tm Z), (tm Z), trivial⟩ (List.Perm.refl _) (parse.Feed.ok r194e) ?_)
    rintro _ _ ⟨t195, rfl, rfl⟩
    refine xm Z Z Z (xa (.agg (api.Input.ct .no r194.1)) Z (pu_extract Z (tm Z) (nb Z) Z) (xa (.sl (.own t195) 2 (r194.2.1.map api.Request.av)) Z (pu_extract Z (tm Z) (nb Z) Z) (xa (.i r194.2.2) Z (pu_extract Z (tm Z) (nb Z) Z) (xc Z (op_alloc (cs := [.str ([] : List UInt8), .sl .full 1 (([] : List (List UInt8)).map AV.str), .i 0, .i 0, .bool false, .i 0, .i 0]) (v := .agg [.str ([] : List UInt8), .sl .full 1 (([] : List (List UInt8)).map AV.str), .i 0, .i 0, .bool false, .i 0, .i 0]) Z zeroValue29 Z Z Z ?_)))))
    intro p196
    refine ac0 Z Z (op_store (i := 0) (cs' := (api.Input.ct .no r194.1)) Z sizeOf29 (tm Z) (v := .agg (api.Input.ct .no r194.1)) (tm Z) Z Z Z (nb Z) Z (xm Z Z Z (xm Z Z Z (xe (aw_seq (xr (xm Z Z Z (xa (.bool (!s161)) Z (pu_not Z (tm Z)) (xe ?_)))))))))
    refine aw_cond (b := (!s161)) (tm Z) (fun hb244 => ?_) (fun hb244 => ?_)
    ·replace h := ite_t hb244 h
     obtain ⟨s200, s200e, h201⟩ := bind_some h
     refine aw_meet (ν := Unit) (fun v => [(6, .bool s200)]) (fun v => []) ?_ ?_
     ·have h := s200e
      refine aw_region (xm Z Z Z (xa (.bool (!decide (r194.2.2 = 0))) Z (pu_int (v := .bool (!decide (r194.2.2 = 0))) Z Z (tm Z) (AEv.int _ _) Z) (xm Z Z Z ?_)))
      rcases Bool.eq_false_or_eq_true (!decide (r194.2.2 = 0)) with hb203 | hb203
      ·replace h := ite_f (ndec_t hb203) h
       refine aops_known 61 Z hb203 (xq Z Z Z Z (xp (.i (r194.2.1.length : Int)) Z Z (pu_lenM Z underlying30 (tm Z)) (xp (.bool (decide ((r194.2.1.length : Int) = 0))) Z Z (pu_int (v := .bool (decide ((r194.2.1.length : Int) = 0))) Z Z (tm Z) (AEv.int _ _) Z) (xa (.bool (decide ((r194.2.1.length : Int) = 0))) Z (pu_pick (b := true) Z (tm Z) (fun _ => (tm Z)) (fun h => nomatch h)) (xm Z Z Z ?_)))))
       rcases Bool.eq_false_or_eq_true (decide ((r194.2.1.length : Int) = 0)) with hb204 | hb204
       ·replace h := ite_t (dec_t hb204) h
        refine aops_known 66 Z hb204 ?_
        obtain ⟨r205, r205e, h⟩ := bind_some h
        refine xg Z Z (op_call (vs := []) (H := []) Z call14 trivial (List.Perm.refl _) (mewslaw05.alive.ok r205e) ?_)
        rintro _ _ ⟨rfl, rfl⟩
        refine xa (.bool r205) Z (pu_pick (b := true) Z (tm Z) (fun _ => (tm Z)) (fun h => nomatch h)) (xm Z Z Z (xe ?_))
        obtain rfl := some_of h
        exact ⟨(), Weak.mkL [] (by decide) trivial ⟨tm Z, trivial⟩⟩
       ·replace h := ite_f (dec_f hb204) h
        refine aops_known 66 Z hb204 (xn Z Z Z (xa (.bool false) Z (pu_pick (b := false) Z (tm Z) (fun h => nomatch h) (fun _ => (AEv.bool _))) (xm Z Z Z (xe ?_))))
        obtain rfl := some_of h
        exact ⟨(), Weak.mkL [] (by decide) trivial ⟨tm Z, trivial⟩⟩
      ·replace h := ite_t (ndec_f hb203) h
       refine aops_known 61 Z hb203 (xn Z Z Z (xn Z Z Z (xn Z Z Z (xa (.bool false) Z (pu_pick (b := false) Z (tm Z) (fun h => nomatch h) (fun _ => (AEv.bool _))) (xm Z Z Z (xn Z Z Z (xa (.bool false) Z (pu_pick (b := false) Z (tm Z) (fun h => nomatch h) (fun _ => (AEv.bool _))) (xm Z Z Z (xe ?_)))))))))
       obtain rfl := some_of h
       exact ⟨(), Weak.mkL [] (by decide) trivial ⟨tm Z, trivial⟩⟩
     ·intro _
      have h := h201
      refine aw_ret ?_
      obtain rfl := some_of h
      exact ⟨[.bool s200], _, [], ⟨(tm Z), trivial⟩, vr, Weak.mkL [] (by decide) trivial trivial, ⟨Z, Z⟩⟩
    ·replace h := ite_fb hb244 h
     refine aw_skip (aw_seq ?_)
     obtain ⟨s215, s215e, h216⟩ := bind_some h
     refine aw_meet (ν := Unit) (fun v => [(2, .i at_), (4, .ptr p124 0), (7, .str r127), (100, .bool s215)]) (fun v => [(p124, .cells [.i l.Args, .i l.Bulk, .i l.Line])]) ?_ ?_
     ·have h := s215e
      refine aw_region (xm Z Z Z (xa (.bool (!decide (r194.2.2 = 0))) Z (pu_int (v := .bool (!decide (r194.2.2 = 0))) Z Z (tm Z) (AEv.int _ _) Z) (xm Z Z Z ?_)))
      rcases Bool.eq_false_or_eq_true (!decide (r194.2.2 = 0)) with hb218 | hb218
      ·replace h := ite_f (ndec_t hb218) h
       refine aops_known 71 Z hb218 (xn Z Z Z (xn Z Z Z (xn Z Z Z (xa (.bool true) Z (pu_pick (b := true) Z (tm Z) (fun _ => (AEv.bool _)) (fun h => nomatch h)) (xm Z Z Z (xn Z Z Z (xn Z Z Z (xn Z Z Z (xn Z Z Z ?_)))))))))
       refine xv Z Z (xv Z Z (xv Z Z (xn Z Z Z (xa (.bool true) Z (pu_pick (b := true) Z (tm Z) (fun _ => (AEv.bool _)) (fun h => nomatch h)) (xm Z Z Z (xn Z Z Z (xn Z Z Z (xn Z Z Z (xn Z Z Z ?_)))))))))
       refine xv Z Z (xv Z Z (xv Z Z (xv Z Z (xv Z Z (xv Z Z (xv Z Z (xv Z Z (xn Z Z Z (xa (.bool true) Z (pu_pick (b := true) Z (tm Z) (fun _ => (AEv.bool _)) (fun h => nomatch h)) ?_)))))))))
       refine xe ?_
       obtain rfl := some_of h
       exact ⟨(), Weak.mkL [2] (by decide) ⟨⟨_, Z, cr, Z⟩, trivial⟩ ⟨tm Z, tm Z, tm Z, tm Z, trivial⟩⟩
      ·replace h := ite_t (ndec_f hb218) h
       refine aops_known 71 Z hb218 (xg Z Z (op_loadN (i := 0) Z isAgg29 sizeOf29 (tm Z) Z (nb Z) Z ?_))
       obtain ⟨r219, r219e, h⟩ := bind_some h
       refine xg Z Z (op_call (vs := [.agg (api.Input.ct .no r194.1)]) (H := []) Z call21 ⟨(tm Z), trivial⟩ (List.Perm.refl _) (parse.Idle.ok r219e) ?_)
       rintro _ _ ⟨rfl, rfl⟩
       refine xp (.bool (!r219)) Z Z (pu_not Z (tm Z)) (xa (.bool (!r219)) Z (pu_pick (b := false) Z (tm Z) (fun h => nomatch h) (fun _ => (tm Z))) (xm Z Z Z ?_))
       rcases Bool.eq_false_or_eq_true (!r219) with hb220 | hb220
       ·replace h := ite_t hb220 h
        refine aops_known 76 Z hb220 (xn Z Z Z (xn Z Z Z (xn Z Z Z (xn Z Z Z (xv Z Z (xv Z Z (xv Z Z (xn Z Z Z (xa (.bool true) Z (pu_pick (b := true) Z (tm Z) (fun _ => (AEv.bool _)) (fun h => nomatch h)) ?_)))))))))
        refine xm Z Z Z (xn Z Z Z (xn Z Z Z (xn Z Z Z (xn Z Z Z (xv Z Z (xv Z Z (xv Z Z (xv Z Z (xv Z Z ?_)))))))))
        refine xv Z Z (xv Z Z (xv Z Z (xn Z Z Z (xa (.bool true) Z (pu_pick (b := true) Z (tm Z) (fun _ => (AEv.bool _)) (fun h => nomatch h)) (xe ?_)))))
        obtain rfl := some_of h
        exact ⟨(), Weak.mkL [2] (by decide) ⟨⟨_, Z, cr, Z⟩, trivial⟩ ⟨tm Z, tm Z, tm Z, tm Z, trivial⟩⟩
       ·replace h := ite_fb hb220 h
        refine aops_known 76 Z hb220 (xq Z Z Z Z (xp (.i (args.length : Int)) Z Z (pu_lenM Z underlying26 (tm Z)) (xp (.bool (decide ((args.length : Int) = 0))) Z Z (pu_int (v := .bool (decide ((args.length : Int) = 0))) Z Z (tm Z) (AEv.int _ _) Z) (xq Z Z Z Z ?_))))
        rcases Bool.eq_false_or_eq_true (decide ((args.length : Int) = 0)) with hb221 | hb221
        ·replace h := ite_t (dec_t hb221) h
         refine aops_known 80 Z hb221 (xq Z Z Z Z (xp (.i (r194.2.1.length : Int)) Z Z (pu_lenM Z underlying30 (tm Z)) (xp (.bool (decide (0 < (r194.2.1.length : Int)))) Z Z (pu_int (v := .bool (decide (0 < (r194.2.1.length : Int)))) Z Z (tm Z) (AEv.int _ _) Z) (xp (.bool (decide (0 < (r194.2.1.length : Int)))) Z Z (pu_pick (b := true) Z (tm Z) (fun _ => (tm Z)) (fun h => nomatch h)) (xa (.bool (decide (0 < (r194.2.1.length : Int)))) Z (pu_pick (b := false) Z (tm Z) (fun h => nomatch h) (fun _ => (tm Z))) (xm Z Z Z ?_))))))
         rcases Bool.eq_false_or_eq_true (decide (0 < (r194.2.1.length : Int))) with hb222 | hb222
         ·replace h := ite_t (dec_t hb222) h
          refine aops_known 86 Z hb222 (xn Z Z Z (xn Z Z Z (xn Z Z Z (xn Z Z Z (xv Z Z (xv Z Z (xv Z Z (xv Z Z (xv Z Z ?_)))))))))
          refine xv Z Z (xv Z Z (xv Z Z (xn Z Z Z (xa (.bool true) Z (pu_pick (b := true) Z (tm Z) (fun _ => (AEv.bool _)) (fun h => nomatch h)) (xe ?_)))))
          obtain rfl := some_of h
          exact ⟨(), Weak.mkL [2] (by decide) ⟨⟨_, Z, cr, Z⟩, trivial⟩ ⟨tm Z, tm Z, tm Z, tm Z, trivial⟩⟩
         ·replace h := ite_f (dec_f hb222) h
          refine aops_known 86 Z hb222 (xq Z Z Z Z (xp (.i (args.length : Int)) Z Z (pu_lenM Z underlying26 (tm Z)) (xp (.bool (decide (0 < (args.length : Int)))) Z Z (pu_int (v := .bool (decide (0 < (args.length : Int)))) Z Z (tm Z) (AEv.int _ _) Z) (xq Z Z Z Z ?_))))
          rcases Bool.eq_false_or_eq_true (decide (0 < (args.length : Int))) with hb223 | hb223
          ·replace h := ite_t (dec_t hb223) h
           refine aops_known 90 Z hb223 (xq Z Z Z Z (xq Z Z Z Z (xq Z Z Z Z (xp (.i (r127.length : Int)) Z Z (pu_strLen Z underlying9 (tm Z)) (xp (.agg [.sl .no 1 (args.map AV.str), .i (r127.length : Int)]) Z Z (pu_build (zs := [.sl .full 1 (([] : List (List UInt8)).map AV.str), .i 0]) (szs := [1, 1]) (aparts := [(0, .sl .no 1 (args.map AV.str)), (1, .i (r127.length : Int))]) (cs := [.sl .no 1 (args.map AV.str), .i (r127.length : Int)]) Z underlying44 zeroValue44 Z ⟨sizeOf26, sizeOf3, trivial⟩ ⟨Z, (tm Z), ⟨Z, (tm Z), trivial⟩⟩ Z) (xg Z Z (op_buildSlice (xs := ([({ Args := args, Size := (r127.length : Int) } : api.Request)] : List api.Request).map api.Request.av) (aparts := [(0, .agg [.sl .no 1 (args.map AV.str), .i (r127.length : Int)])]) Z underlying30 sizeOf44 zeroValue44 (by decide) (by decide) ⟨Z, (tm Z), trivial⟩ Z Z Z ?_)))))))
           obtain ⟨r224, r224e, h⟩ := bind_some h
           refine xg Z Z (op_call (vs := [.sl .no 2 (r194.2.1.map api.Request.av), .sl .no 2 ([({ Args := args, Size := (r127.length : Int) } : api.Request)].map api.Request.av)]) (H := []) Z call18 ⟨(AEv.le (tm Z) (AV.Le.forget _ _ _)), (AEv.le (tm Z) (AV.Le.forget _ _ _)), trivial⟩ (List.Perm.refl _) (mewsref05.Same.ok r224e) ?_)
           rintro _ _ ⟨rfl, rfl⟩
           refine xp (.bool (!r224)) Z Z (pu_not Z (tm Z)) (xp (.bool (!r224)) Z Z (pu_pick (b := true) Z (tm Z) (fun _ => (tm Z)) (fun h => nomatch h)) (xa (.bool (!r224)) Z (pu_pick (b := false) Z (tm Z) (fun h => nomatch h) (fun _ => (tm Z))) (xe ?_)))
           obtain rfl := some_of h
           exact ⟨(), Weak.mkL [2] (by decide) ⟨⟨_, Z, cr, Z⟩, trivial⟩ ⟨tm Z, tm Z, tm Z, tm Z, trivial⟩⟩
          ·replace h := ite_f (dec_f hb223) h
           refine aops_known 90 Z hb223 (xn Z Z Z (xn Z Z Z (xn Z Z Z (xn Z Z Z (xn Z Z Z (xn Z Z Z (xn Z Z Z (xn Z Z Z (xp (.bool false) Z Z (pu_pick (b := false) Z (tm Z) (fun h => nomatch h) (fun _ => (AEv.bool _))) ?_)))))))))
           refine xa (.bool false) Z (pu_pick (b := false) Z (tm Z) (fun h => nomatch h) (fun _ => (tm Z))) (xe ?_)
           obtain rfl := some_of h
           exact ⟨(), Weak.mkL [2] (by decide) ⟨⟨_, Z, cr, Z⟩, trivial⟩ ⟨tm Z, tm Z, tm Z, tm Z, trivial⟩⟩
        ·replace h := ite_f (dec_f hb221) h
         refine aops_known 80 Z hb221 (xn Z Z Z (xn Z Z Z (xn Z Z Z (xp (.bool false) Z Z (pu_pick (b := false) Z (tm Z) (fun h => nomatch h) (fun _ => (AEv.bool _))) (xa (.bool false) Z (pu_pick (b := false) Z (tm Z) (fun h => nomatch h) (fun _ => (tm Z))) (xm Z Z Z (xq Z Z Z Z (xp (.i (args.length : Int)) Z Z (pu_lenM Z underlying26 (tm Z)) (xp (.bool (decide (0 < (args.length : Int)))) Z Z (pu_int (v := .bool (decide (0 < (args.length : Int)))) Z Z (tm Z) (AEv.int _ _) Z) ?_)))))))))
         refine xq Z Z Z Z ?_
         rcases Bool.eq_false_or_eq_true (decide (0 < (args.length : Int))) with hb225 | hb225
         ·replace h := ite_t (dec_t hb225) h
          refine aops_known 90 Z hb225 (xq Z Z Z Z (xq Z Z Z Z (xq Z Z Z Z (xp (.i (r127.length : Int)) Z Z (pu_strLen Z underlying9 (tm Z)) (xp (.agg [.sl .no 1 (args.map AV.str), .i (r127.length : Int)]) Z Z (pu_build (zs := [.sl .full 1 (([] : List (List UInt8)).map AV.str), .i 0]) (szs := [1, 1]) (aparts := [(0, .sl .no 1 (args.map AV.str)), (1, .i (r127.length : Int))]) (cs := [.sl .no 1 (args.map AV.str), .i (r127.length : Int)]) Z underlying44 zeroValue44 Z ⟨sizeOf26, sizeOf3, trivial⟩ ⟨Z, (tm Z), ⟨Z, (tm Z), trivial⟩⟩ Z) (xg Z Z (op_buildSlice (xs := ([({ Args := args, Size := (r127.length : Int) } : api.Request)] : List api.Request).map api.Request.av) (aparts := [(0, .agg [.sl .no 1 (args.map AV.str), .i (r127.length : Int)])]) Z underlying30 sizeOf44 zeroValue44 (by decide) (by decide) ⟨Z, (tm Z), trivial⟩ Z Z Z ?_)))))))
          obtain ⟨r226, r226e, h⟩ := bind_some h
          refine xg Z Z (op_call (vs := [.sl .no 2 (r194.2.1.map api.Request.av), .sl .no 2 ([({ Args := args, Size := (r127.length : Int) } : api.Request)].map api.Request.av)]) (H := []) Z call18 ⟨(AEv.le (tm Z) (AV.Le.forget _ _ _)), (AEv.le (tm Z) (AV.Le.forget _ _ _)), trivial⟩ (List.Perm.refl _) (mewsref05.Same.ok r226e) ?_)
          rintro _ _ ⟨rfl, rfl⟩
          refine xp (.bool (!r226)) Z Z (pu_not Z (tm Z)) (xp (.bool (!r226)) Z Z (pu_pick (b := true) Z (tm Z) (fun _ => (tm Z)) (fun h => nomatch h)) (xa (.bool (!r226)) Z (pu_pick (b := false) Z (tm Z) (fun h => nomatch h) (fun _ => (tm Z))) (xe ?_)))
          obtain rfl := some_of h
          exact ⟨(), Weak.mkL [2] (by decide) ⟨⟨_, Z, cr, Z⟩, trivial⟩ ⟨tm Z, tm Z, tm Z, tm Z, trivial⟩⟩
         ·replace h := ite_f (dec_f hb225) h
          refine aops_known 90 Z hb225 (xn Z Z Z (xn Z Z Z (xn Z Z Z (xn Z Z Z (xn Z Z Z (xn Z Z Z (xn Z Z Z (xn Z Z Z (xp (.bool false) Z Z (pu_pick (b := false) Z (tm Z) (fun h => nomatch h) (fun _ => (AEv.bool _))) ?_)))))))))
          refine xa (.bool false) Z (pu_pick (b := false) Z (tm Z) (fun h => nomatch h) (fun _ => (tm Z))) (xe ?_)
          obtain rfl := some_of h
          exact ⟨(), Weak.mkL [2] (by decide) ⟨⟨_, Z, cr, Z⟩, trivial⟩ ⟨tm Z, tm Z, tm Z, tm Z, trivial⟩⟩
     ·intro _
      have h := h216
      refine aw_cond (b := s215) (tm Z) (fun hb243 => ?_) (fun hb243 => ?_)
      ·replace h := ite_t hb243 h
       refine xr (xa (.bool false) Z (pu_assign Z (AEv.bool _)) (xe (aw_ret ?_)))
       obtain rfl := some_of h
       exact ⟨[.bool false], _, [], ⟨(tm Z), trivial⟩, vr, Weak.mkL [] (by decide) trivial trivial, ⟨Z, Z⟩⟩
      ·replace h := ite_fb hb243 h
       refine aw_skip (aw_seq ?_)
       obtain ⟨c227, h⟩ := need_of h
       obtain ⟨c228, h⟩ := need_of h
       obtain ⟨x229, x229e, h⟩ := letO_of h
       obtain ⟨r230, r230e, h⟩ := bind_some h
       refine aw_reserve fun p231 => (aw_planR (by decide +kernel) [[], [], [], [], [], [], [], [], [], [], [(1, 0, false)], [], [], [], [], [], [(0, 0, true)], [(0, 1, true)], [], []] [[16, 17], []] [[[(p231, .resv)], [(p231, .cells [.str ([] : List UInt8), .sl .full 1 (([] : List (List UInt8)).map AV.str), .i 0, .i 0, .bool false, .i 0, .i 0])], [(p231, .cells (api.Input.ct .no r230.1))]], [[(p124, .cells [.i l.Args, .i l.Bulk, .i l.Line])]]] [.agg [.str ([] : List UInt8), .sl .full 1 (([] : List (List UInt8)).map AV.str), .i 0, .i 0, .bool false, .i 0, .i 0], .str r127, .i at_, .int .u64 (IntKind.wrap .u64 at_), .str r127, .i (r127.length : Int), .int .u64 (IntKind.wrap .u64 (r127.length : Int)), .int .u64 ((IntKind.wrap .u64 at_).tmod (IntKind.wrap .u64 (r127.length : Int))), .i (IntKind.wrap .i64 ((IntKind.wrap .u64 at_).tmod (IntKind.wrap .u64 (r127.length : Int)))), .str x229, .agg [.i l.Args, .i l.Bulk, .i l.Line], .tup [.agg (api.Input.ct .no r230.1), .sl .no 2 (r230.2.1.map api.Request.av), .i r230.2.2], .tup [.agg (api.Input.ct .no r230.1), .sl .no 2 (r230.2.1.map api.Request.av), .i r230.2.2], .agg (api.Input.ct .no r230.1), .sl .no 2 (r230.2.1.map api.Request.av), .i r230.2.2, .ptr p231 0, .un, .sl .no 2 (r230.2.1.map api.Request.av), .i r230.2.2] (by decide +kernel) Z Z ?_ ?_)
       ·exact ⟨yp Z (pu_build (zs := [.str ([] : List UInt8), .sl .full 1 (([] : List (List UInt8)).map AV.str), .i 0, .i 0, .bool false, .i 0, .i 0]) (szs := [1, 1, 1, 1, 1, 1, 1]) (aparts := []) (cs := [.str ([] : List UInt8), .sl .full 1 (([] : List (List UInt8)).map AV.str), .i 0, .i 0, .bool false, .i 0, .i 0]) Z underlying29 zeroValue29 Z ⟨sizeOf9, sizeOf26, sizeOf3, sizeOf3, sizeOf4, sizeOf3, sizeOf27, trivial⟩ trivial Z), ym Z Z Z, ym Z Z Z, yp Z (pu_conv Z underlying3 underlying47 (tm Z)), ym Z Z Z, yp Z (pu_strLen Z underlying9 (tm Z)), yp Z (pu_conv Z underlying3 underlying47 (tm Z)), yp Z (pu_rem Z (tm Z) (tm Z) c227), yp Z (pu_conv Z underlying47 underlying3 (tm Z)), yp Z (APure.eq (pu_strSliceM Z underlying9 (tm Z) Z ⟨_, (tm Z)⟩ c228) (congrArg (AV.str) x229e.symm)), stepg_plain Z (op_loadN (i := 0) Z isAgg23 sizeOf23 (tm Z) Z (nb Z) Z ⟨Z, Z⟩), stepg_plain Z (aop_forget (.tup [.agg (api.Input.ct .no r230.1), .sl .no 2 (r230.2.1.map api.Request.av), .i r230.2.2]) [] (op_call (vs := [.agg [.str ([] : List UInt8), .sl .no 1 (([] : List (List UInt8)).map AV.str), .i 0, .i 0, .bool false, .i 0, .i 0], .str x229, .agg [.i l.Args, .i l.Bulk, .i l.Line]]) (H := []) Z call15 ⟨(AEv.le (tm Z) (AV.Le.agg ⟨vr, (AV.Le.forget _ _ _), vr, vr, vr, vr, vr, trivial⟩)), (tm Z), (tm Z), trivial⟩ (R := []) (List.Perm.refl _) (parse.Feed.ok r230e) (by rintro _ _ ⟨_, rfl, rfl⟩; exact ⟨([] : List Nat), _, Z, Z, (AV.Le.tup ⟨vr, (AV.Le.forget _ _ _), vr, trivial⟩), List.nodup_nil, Z⟩)) ⟨Z, Z⟩), ym Z Z Z, yp Z (pu_extract Z (tm Z) (nb Z) Z), yp Z (pu_extract Z (tm Z) (nb Z) Z), yp Z (pu_extract Z (tm Z) (nb Z) Z), stepg_plain Z (aop_settleP (op_alloc (cs := [.str ([] : List UInt8), .sl .full 1 (([] : List (List UInt8)).map AV.str), .i 0, .i 0, .bool false, .i 0, .i 0]) (v := .agg [.str ([] : List UInt8), .sl .full 1 (([] : List (List UInt8)).map AV.str), .i 0, .i 0, .bool false, .i 0, .i 0]) Z zeroValue29 Z Z Z fun t => ⟨t, Z, Z⟩) ⟨Z, Z⟩), stepg_plain Z (op_store (i := 0) (cs' := (api.Input.ct .no r230.1)) Z sizeOf29 (tm Z) (v := .agg (api.Input.ct .no r230.1)) (tm Z) Z Z Z (nb Z) Z ⟨Z, Z⟩), ym Z Z Z, ym Z Z Z, trivial⟩
       obtain ⟨s236, s236e, h237⟩ := bind_some h
       refine aw_meet (ν := Unit) (fun v => [(6, .bool s236)]) (fun v => []) ?_ ?_
       ·have h := s236e
        refine aw_region (xm Z Z Z (xa (.i (r230.2.1.length : Int)) Z (pu_lenM Z underlying30 (tm Z)) (xa (.bool (decide ((r230.2.1.length : Int) = 0))) Z (pu_int (v := .bool (decide ((r230.2.1.length : Int) = 0))) Z Z (tm Z) (AEv.int _ _) Z) (xm Z Z Z ?_))))
        rcases Bool.eq_false_or_eq_true (decide ((r230.2.1.length : Int) = 0)) with hb239 | hb239
        ·replace h := ite_t (dec_t hb239) h
         refine aops_known 120 Z hb239 (xq Z Z Z Z (xp (.bool (decide (r230.2.2 = 0))) Z Z (pu_int (v := .bool (decide (r230.2.2 = 0))) Z Z (tm Z) (AEv.int _ _) Z) (xa (.bool (decide (r230.2.2 = 0))) Z (pu_pick (b := true) Z (tm Z) (fun _ => (tm Z)) (fun h => nomatch h)) (xm Z Z Z ?_))))
         rcases Bool.eq_false_or_eq_true (decide (r230.2.2 = 0)) with hb240 | hb240
         ·replace h := ite_t (dec_t hb240) h
          refine aops_known 124 Z hb240 (xp (.ptr p231 6) Z Z (fa Z underlying29 Z sizeOf27 Z Z Z) (xg Z Z (op_load1 (i := 0) Z isAgg27 (tm Z) Z Z (xp (.bool (decide (r230.1.Dead = 0))) Z Z (pu_int (v := .bool (decide (r230.1.Dead = 0))) Z Z (tm Z) (AEv.int _ _) Z) (xa (.bool (decide (r230.1.Dead = 0))) Z (pu_pick (b := true) Z (tm Z) (fun _ => (tm Z)) (fun h => nomatch h)) (xm Z Z Z ?_))))))
          rcases Bool.eq_false_or_eq_true (decide (r230.1.Dead = 0)) with hb241 | hb241
          ·replace h := ite_t (dec_t hb241) h
           refine aops_known 129 Z hb241 ?_
           obtain ⟨r242, r242e, h⟩ := bind_some h
           refine xg Z Z (op_call (vs := []) (H := []) Z call14 trivial (List.Perm.refl _) (mewslaw05.alive.ok r242e) ?_)
           rintro _ _ ⟨rfl, rfl⟩
           refine xa (.bool r242) Z (pu_pick (b := true) Z (tm Z) (fun _ => (tm Z)) (fun h => nomatch h)) (xm Z Z Z (xe ?_))
           obtain rfl := some_of h
           exact ⟨(), Weak.mkL [] (by decide) trivial ⟨tm Z, trivial⟩⟩
          ·replace h := ite_f (dec_f hb241) h
           refine aops_known 129 Z hb241 (xn Z Z Z (xa (.bool false) Z (pu_pick (b := false) Z (tm Z) (fun h => nomatch h) (fun _ => (AEv.bool _))) (xm Z Z Z (xe ?_))))
           obtain rfl := some_of h
           exact ⟨(), Weak.mkL [] (by decide) trivial ⟨tm Z, trivial⟩⟩
         ·replace h := ite_f (dec_f hb240) h
          refine aops_known 124 Z hb240 (xn Z Z Z (xn Z Z Z (xn Z Z Z (xa (.bool false) Z (pu_pick (b := false) Z (tm Z) (fun h => nomatch h) (fun _ => (AEv.bool _))) (xm Z Z Z (xn Z Z Z (xa (.bool false) Z (pu_pick (b := false) Z (tm Z) (fun h => nomatch h) (fun _ => (AEv.bool _))) (xm Z Z Z (xe ?_)))))))))
          obtain rfl := some_of h
          exact ⟨(), Weak.mkL [] (by decide) trivial ⟨tm Z, trivial⟩⟩
        ·replace h := ite_f (dec_f hb239) h
         refine aops_known 120 Z hb239 (xn Z Z Z (xn Z Z Z (xa (.bool false) Z (pu_pick (b := false) Z (tm Z) (fun h => nomatch h) (fun _ => (AEv.bool _))) (xm Z Z Z (xn Z Z Z (xn Z Z Z (xn Z Z Z (xa (.bool false) Z (pu_pick (b := false) Z (tm Z) (fun h => nomatch h) (fun _ => (AEv.bool _))) (xm Z Z Z ?_)))))))))
         refine xn Z Z Z (xa (.bool false) Z (pu_pick (b := false) Z (tm Z) (fun h => nomatch h) (fun _ => (AEv.bool _))) (xm Z Z Z (xe ?_)))
         obtain rfl := some_of h
         exact ⟨(), Weak.mkL [] (by decide) trivial ⟨tm Z, trivial⟩⟩
       ·intro _
        have h := h237
        refine aw_ret ?_
        obtain rfl := some_of h
        exact ⟨[.bool s236], _, [], ⟨(tm Z), trivial⟩, vr, Weak.mkL [] (by decide) trivial trivial, ⟨Z, Z⟩⟩

end Go.Pu
